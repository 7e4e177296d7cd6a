/- Memory lemmas: an append onto a row of the call's own; what a call may have turned ('Mods'). No program in sight. -/
import Derived.WalkKit
import Derived.WalkSpells
import Derived.WalkLawsBesides
import Derived.Lib.Hide
import Derived.OneCell
import Derived.OrdersHeld
import Derived.StillTail
import Derived.Deep.RegionHeld3
import Derived.Test.YtbmbfifempkhgaaProg
import Derived.Deep.QuietTactic
import Derived.BigQuiet
import Derived.Deep.DeepMust
import Derived.Laws.OwnMore
namespace Go.Proofs.Ytbmbfifempkhgaa
open Go.RowKit
structure Mods (F : Nat → Prop) (w w' : World) : Prop where
 os : w'.os = w.os
 tape : w'.tape = w.tape
 output : w'.output = w.output
 size : w.heap.size ≤ w'.heap.size
 block : ∀ k, k < w.heap.size → ¬ F k → w'.heap[k]? = w.heap[k]?
theorem Mods.refl (F : Nat → Prop) (w : World) : Mods F w w := ⟨rfl, rfl, rfl, Nat.le_refl _, fun _ _ _ => rfl⟩
theorem Mods.trans {F G H : Nat → Prop} {a b c : World} (h : Mods F a b) (k : Mods G b c) (hF : ∀ n, n < a.heap.size → F n → H n) (hG : ∀ n, n < a.heap.size → G n → H n) : Mods H a c :=
 ⟨k.os.trans h.os, k.tape.trans h.tape, k.output.trans h.output, Nat.le_trans h.size k.size,
  fun n hn hH => (k.block n (Nat.lt_of_lt_of_le hn h.size) (fun g => hH (hG n hn g))).trans (h.block n hn (fun f => hH (hF n hn f)))⟩
theorem Mods.mono {F G : Nat → Prop} {a b : World} (h : Mods F a b) (hF : ∀ n, n < a.heap.size → F n → G n) : Mods G a b :=
 ⟨h.os, h.tape, h.output, h.size, fun n hn hg => h.block n hn (fun f => hg (hF n hn f))⟩
theorem Mods.drew {F : Nat → Prop} {a b : World} (h : Mods F a b) : Mods F a b.drew := ⟨h.os, h.tape, h.output, h.size, h.block⟩
theorem Mods.drewN {F : Nat → Prop} {a b : World} (h : Mods F a b) (n : Nat) : Mods F a (b.drewN n) := ⟨h.os, h.tape, h.output, h.size, h.block⟩
theorem Mods.alloc {F : Nat → Prop} {a b : World} (h : Mods F a b) (o : Obj) : Mods F a (b.alloc o) :=
 ⟨h.os, h.tape, h.output, Nat.le_trans h.size (by simp), fun k hk hf => (Below.heap_alloc b o k (Nat.lt_of_lt_of_le hk h.size)).trans (h.block k hk hf)⟩
theorem Mods.setCell {F : Nat → Prop} {a b : World} (h : Mods F a b) {p : Addr} (hp : p.block < a.heap.size → F p.block) (u : Value) : Mods F a (b.setCell p u) :=
 ⟨h.os, h.tape, h.output, by simpa [World.setCell] using h.size, fun k hk hf => (Below.heap_setCell b p u k (fun e => hf (e ▸ hp (e ▸ hk)))).trans (h.block k hk hf)⟩
theorem Mods.grown {F : Nat → Prop} {a b c : World} (h : Mods F a b) {row : Option Nat} (hg : b.grownBy c row) (hr : ∀ k, row = some k → k < a.heap.size → F k) : Mods F a c :=
 ⟨hg.os.trans h.os, hg.tape.trans h.tape, hg.output.trans h.output, Nat.le_trans h.size hg.size,
  fun k hk hf => (hg.block k (Nat.lt_of_lt_of_le hk h.size) (fun e => hf (hr k e.symm hk))).trans (h.block k hk hf)⟩
theorem Mods.below {F : Nat → Prop} {a b : World} (h : Mods F a b) {B : Nat} (hB : B ≤ a.heap.size) (hF : ∀ k, k < B → ¬ F k) : Below B a b :=
 ⟨h.os, h.tape, h.output, h.size, fun k hk => h.block k (Nat.lt_of_lt_of_le hk hB) (hF k hk)⟩
theorem Mods.of_below {a b : World} (h : Below a.heap.size a b) (F : Nat → Prop) : Mods F a b := ⟨h.os, h.tape, h.output, h.size, fun k hk _ => h.block k hk⟩
theorem Mods.grownBy {a b : World} {row : Option Nat} (h : Mods (fun k => row = some k) a b) : a.grownBy b row :=
 ⟨h.os, h.tape, h.output, h.size, fun k hk hf => h.block k hk (fun e => hf e.symm)⟩
theorem Mods.cell {F : Nat → Prop} {a b : World} (h : Mods F a b) {p : Addr} (hp : p.block < a.heap.size) (hf : ¬ F p.block) : b.cell? p = a.cell? p := World.cell?_of_block (w := a) (h.block p.block hp hf)
theorem owns_kept {w w' : World} {F : Nat → Prop} {base e size : Nat} {v : Value} {n : Nat} {xs : List Value} (h : w.ownsRow base e size v n xs) (hm : Mods F w w') (hf : ∀ k, v.ownBlock = some k → ¬ F k) : w'.ownsRow base e size v n xs := by
 refine ⟨h.1, ?_⟩
 rcases h.2 with hn | ⟨g, cap, cur, rfl, hb, hg, r⟩
 ·
  exact .inl hn
 ·
  exact .inr ⟨g, cap, cur, rfl, hb, by rw [hm.block g (Array.getElem?_eq_some_iff.1 hg).1 (hf g rfl)]; exact hg, r⟩
theorem owns_base {w : World} {base base' e size : Nat} {v : Value} {n : Nat} {xs : List Value} (h : w.ownsRow base e size v n xs) (hb : ∀ k, v.ownBlock = some k → base' ≤ k) : w.ownsRow base' e size v n xs := by
 refine ⟨h.1, ?_⟩
 rcases h.2 with hn | ⟨g, cap, cur, rfl, _, hg, r⟩
 ·
  exact .inl hn
 ·
  exact .inr ⟨g, cap, cur, rfl, hb g rfl, hg, r⟩
theorem nextcap_le {need old : Nat} (h : old < need) : Builtin.nextslicecap need old ≤ need + need / 4 + 512 := by
 unfold Builtin.nextslicecap
 split
 ·
  omega
 ·
  split
  ·
   omega
  ·
   rw [growBy_four]
   repeat' split
   all_goals omega
theorem grow_ok {need bytes : Nat} (hb : (need + need / 4 + 512) * bytes ≤ 281474976710656) : ∀ old, old < need → Builtin.nextslicecap need old * bytes ≤ 281474976710656 :=
 fun _ h => Nat.le_trans (Nat.mul_le_mul_right _ (nextcap_le h)) hb
theorem run_app {P : Program} (w : World) (base : Nat) (t ty e : TypeId) (i : TypeInfo) (z : Value) (size bytes : Nat) (ht : P.underlying t = some (.slice e)) (hi : P.info? e = some i) (hz : i.zero = some z)
  (hsize : i.size = size) (hby : i.bytes = bytes) (hzs : z.cells.size = size)
  (v : Value) (n : Nat) (xs : List Value) (hown : w.ownsRow base e size v n xs)
  (ao : Option Addr) (m c : Nat) (news : List Value) (hl : news.length = m * size) (hnone : ao = none → m = 0) (hnews : ∀ a, ao = some a → ∀ j u, news[j]? = some u → w.cell? (a.add j) = some u) (h1 : ∀ u ∈ news, u.oneCell' = true)
  (h63 : n + m ≤ maxLen) (hgrow : ∀ old, old < n + m → Builtin.nextslicecap (n + m) old * bytes ≤ 281474976710656) (hbase : base ≤ w.heap.size) :
  ∃ v' w', (Builtin.append_ #[t, t] ty #[v, .slice ao m c]).run P w = .ok v' w' ∧ w'.ownsRow base e size v' (n + m) (xs ++ news) ∧ w.grownBy w' v.ownBlock ∧
   (v' = .slice none 0 0 ↔ v = .slice none 0 0 ∧ m = 0) ∧ (v'.ownBlock = v.ownBlock ∨ v'.ownBlock = some w.heap.size) := by
 subst hsize
 subst hby
 cases ao with
 | none =>
  obtain rfl := hnone rfl
  have hn : news = [] := List.eq_nil_of_length_eq_zero (by simpa using hl)
  subst hn
  refine ⟨v, w, ?_, by simpa using hown, World.grownBy.refl _ _, by simp, .inl rfl⟩
  rcases hown.2 with ⟨rfl, rfl⟩ | ⟨g, cap, cur, rfl, _, _, hnc, _⟩
  ·
   simp [Builtin.append_, run_underlying ht, sizeOf, typeInfo, hi, Builtin.lenOf, Builtin.firstCells]
  ·
   simp [Builtin.append_, run_underlying ht, sizeOf, typeInfo, hi, Builtin.lenOf, Builtin.firstCells, hnc, storeCells]
 | some a =>
  have hnews := hnews a rfl
  have hsmall : n + m ≤ 9223372036854775807 := by simp only [maxLen] at h63; omega
  have hlen : (xs ++ news).length = (n + m) * i.size := by rw [List.length_append, hown.1, hl, Nat.add_mul]
  have grown : ∀ (old : Nat), old < n + m → ∀ (row : Option Nat),
    (w.drew.alloc (.cells (xs.toArray ++ news.toArray ++ Builtin.zeroCells z.cells (grownCap w (n + m) old e - (n + m))) e)).ownsRow base e i.size
     (.slice (some ⟨w.heap.size, 0, none⟩) (n + m) (grownCap w (n + m) old e)) (n + m) (xs ++ news) ∧
    w.grownBy (w.drew.alloc (.cells (xs.toArray ++ news.toArray ++ Builtin.zeroCells z.cells (grownCap w (n + m) old e - (n + m))) e)) row := by
   intro old ho row
   have hge := grownCap_ge w (n + m) old e
   have hcm : grownCap w (n + m) old e ≤ maxLen := grownCap_le_maxLen w (n + m) old e h63
   refine ⟨⟨hlen, .inr ⟨w.heap.size, _, _, rfl, hbase, heap_alloc_new w.drew _, hge, hcm, ?_, ?_⟩⟩, ⟨rfl, rfl, rfl, by simp, fun k hk _ => Below.heap_alloc w.drew _ k (by simpa using hk)⟩⟩
   ·
    simp only [Array.size_append, List.size_toArray, size_zeroCells, hzs, hown.1, hl, ← Nat.add_mul]
    congr 1
    omega
   ·
    simp only [Array.toList_append, List.append_assoc]
    rw [← List.append_assoc, ← hlen]
    exact List.take_left
  rcases hown.2 with ⟨rfl, rfl⟩ | ⟨g, cap, cur, rfl, hbg, hg, hnc, hcm, hcs, htake⟩
  ·
   have hx : xs = [] := List.eq_nil_of_length_eq_zero (by simpa using hown.1)
   subst hx
   by_cases hm : m = 0
   ·
    subst hm
    have hn : news = [] := List.eq_nil_of_length_eq_zero (by simpa using hl)
    subst hn
    refine ⟨.slice none 0 0, w, ?_, World.ownsRow_nil w base e i.size, World.grownBy.refl _ _, by simp, .inl rfl⟩
    simp [Builtin.append_, run_underlying ht, sizeOf, typeInfo, hi, Builtin.lenOf, Builtin.firstCells, loadCells, loadCellsFrom]
   ·
    have hb0 := hgrow 0 (by omega)
    simp only [Nat.zero_add, nextslicecap_zero (need := m) (by omega)] at hb0
    have hr := run_append_nil (P := P) w t ty e i z ht hi hz a m c news hl hnews (by omega) (by omega) hb0
    have hgr := grown 0 (by omega) (Value.ownBlock (.slice none 0 0))
    simp only [Nat.zero_add, List.nil_append, Array.empty_append] at hgr ⊢
    exact ⟨_, _, hr, hgr.1, hgr.2, by simp [hm], .inr rfl⟩
  ·
   by_cases hroom : n + m ≤ cap
   ·
    have hfit : n * i.size + news.length ≤ cur.size := by rw [hl, hcs, ← Nat.add_mul]; exact Nat.mul_le_mul_right _ hroom
    have hr := run_append_room (P := P) w t ty e i ht hi g n cap cur hg a m c news hl hnews h1 hroom hfit
    refine ⟨_, _, hr, ⟨hlen, .inr ⟨g, cap, _, rfl, hbg, setRow_heap w g cur _ e _ hg, hroom, hcm, ?_, ?_⟩⟩, ⟨rfl, rfl, rfl, by simp, fun k _ hk => setRow_other w g k _ (fun e => hk (by simp [Value.ownBlock, e]))⟩, by simp, .inl rfl⟩
    ·
     simp only [List.size_toArray, List.length_append, List.length_take, List.length_drop, Array.length_toList]
     omega
    ·
     rw [htake, ← hlen]
     exact List.take_left
   ·
    have holds : ∀ j u, xs[j]? = some u → w.cell? ((⟨g, 0, none⟩ : Addr).add j) = some u := hown.cells (g := g) rfl
    have hr := run_append_grow (P := P) w t ty e i z ht hi hz ⟨g, 0, none⟩ n cap xs hown.1 holds a m c news hl hnews (by omega) (by omega) (hgrow cap (by omega))
    have hgr := grown cap (by omega) (Value.ownBlock (.slice (some ⟨g, 0, none⟩) n cap))
    exact ⟨_, _, hr, hgr.1, hgr.2, by simp, .inr rfl⟩
theorem wp_app {P : Program} {w : World} {o : Oper} {a : Act} {K : Act → World → Prop} {Q : Exit → Act → World → Prop} (s x : Operand) (t : TypeId)
  (ho : o.op = .call { callee := .builtin .append, args := #[s, x], argTypes := #[t, t] })
  (base : Nat) (e : TypeId) (i : TypeInfo) (z : Value) (size bytes : Nat) (ht : P.underlying t = some (.slice e)) (hi : P.info? e = some i) (hz : i.zero = some z)
  (hsize : i.size = size) (hby : i.bytes = bytes) (hzs : z.cells.size = size)
  (v : Value) (n : Nat) (xs : List Value) (hs : a.eval s = v) (hown : w.ownsRow base e size v n xs)
  (ao : Option Addr) (m c : Nat) (news : List Value) (hx : a.eval x = .slice ao m c) (hl : news.length = m * size) (hnone : ao = none → m = 0) (hnews : ∀ ad, ao = some ad → ∀ j u, news[j]? = some u → w.cell? (ad.add j) = some u) (h1 : ∀ u ∈ news, u.oneCell' = true)
  (h63 : n + m ≤ maxLen) (hgrow : ∀ old, old < n + m → Builtin.nextslicecap (n + m) old * bytes ≤ 281474976710656) (hbase : base ≤ w.heap.size)
  (h : ∀ v' w', w'.ownsRow base e size v' (n + m) (xs ++ news) → w.grownBy w' v.ownBlock → (v' = .slice none 0 0 ↔ v = .slice none 0 0 ∧ m = 0) → (v'.ownBlock = v.ownBlock ∨ v'.ownBlock = some w.heap.size) → K (a.put o.dst v') w') : o.wp P a w K Q := by
 obtain ⟨v', w', hr, h2, h3, h4, h5⟩ := run_app (P := P) w base t o.type e i z size bytes ht hi hz hsize hby hzs v n xs hown ao m c news hl hnone hnews h1 h63 hgrow hbase
 unfold Oper.wp execOp
 simp only [ho, resolve, invoke, builtin, Sem.run_bind, Sem.run_pure, Result.andThen_ok, List.map_toArray, List.map_cons, List.map_nil, hs, hx, hr]
 exact h v' w' h2 h3 h4 h5
theorem wpList_app {P : Program} {w : World} {ops : Array Oper} {rest : List Oper} {o : Oper} {a : Act} {Q : Exit → Act → World → Prop} (hgd : o.guard = none) (s x : Operand) (t : TypeId)
  (ho : o.op = .call { callee := .builtin .append, args := #[s, x], argTypes := #[t, t] })
  (base : Nat) (e : TypeId) (i : TypeInfo) (z : Value) (size bytes : Nat) (ht : P.underlying t = some (.slice e)) (hi : P.info? e = some i) (hz : i.zero = some z)
  (hsize : i.size = size) (hby : i.bytes = bytes) (hzs : z.cells.size = size)
  (v : Value) (n : Nat) (xs : List Value) (hs : a.eval s = v) (hown : w.ownsRow base e size v n xs)
  (ao : Option Addr) (m c : Nat) (news : List Value) (hx : a.eval x = .slice ao m c) (hl : news.length = m * size) (hnone : ao = none → m = 0) (hnews : ∀ ad, ao = some ad → ∀ j u, news[j]? = some u → w.cell? (ad.add j) = some u) (h1 : ∀ u ∈ news, u.oneCell' = true)
  (h63 : n + m ≤ maxLen) (hgrow : ∀ old, old < n + m → Builtin.nextslicecap (n + m) old * bytes ≤ 281474976710656) (hbase : base ≤ w.heap.size)
  (h : ∀ v' w', w'.ownsRow base e size v' (n + m) (xs ++ news) → w.grownBy w' v.ownBlock → (v' = .slice none 0 0 ↔ v = .slice none 0 0 ∧ m = 0) → (v'.ownBlock = v.ownBlock ∨ v'.ownBlock = some w.heap.size) → wpList P ops Q rest (a.put o.dst v') w') : wpList P ops Q (o :: rest) a w :=
 wpList_plain hgd fun _ hK => wp_app s x t ho base e i z size bytes ht hi hz hsize hby hzs v n xs hs hown ao m c news hx hl hnone hnews h1 h63 hgrow hbase fun v' w' h2 h3 h4 h5 => hK _ _ (h v' w' h2 h3 h4 h5)
theorem ca {w : World} {p : Addr} {v : Value} {o : Obj} (h : w.cell? p = some v) : (w.alloc o).cell? p = some v :=
 (World.cell?_of_block (w := w) (Below.heap_alloc w o p.block (World.block_lt_of_cell? w p h))).trans h
theorem news_alloc (w : World) (l : List Value) (t : TypeId) : ∀ ad, some (⟨w.heap.size, 0, none⟩ : Addr) = some ad → ∀ j u, l[j]? = some u → (w.alloc (.cells l.toArray t)).cell? (ad.add j) = some u := by
 intro ad had j u hu
 obtain rfl := Option.some.inj had
 have hadd : (⟨w.heap.size, 0, none⟩ : Addr).add j = ⟨w.heap.size, j, none⟩ := by unfold Addr.add; split <;> simp_all
 rw [hadd, cell_of_row (w.alloc (.cells l.toArray t)) w.heap.size j l.toArray t (0, 0) (heap_alloc_new w _)]
 simpa using hu
theorem size_le_alloc {w : World} {B : Nat} (h : B ≤ w.heap.size) (o : Obj) : B ≤ (w.alloc o).heap.size := Nat.le_trans h (by simp)
theorem owns_slice {w : World} {base e size : Nat} {v : Value} {n : Nat} {xs : List Value} (h : w.ownsRow base e size v n xs) : ∃ sa cap, v = .slice sa n cap := by
 rcases h.2 with ⟨rfl, rfl⟩ | ⟨g, cap, cur, rfl, _⟩
 ·
  exact ⟨_, _, rfl⟩
 ·
  exact ⟨_, _, rfl⟩
theorem ownsRow_setCell_other {w : World} {base e size : Nat} {v : Value} {n : Nat} {xs : List Value} (h : w.ownsRow base e size v n xs) {a : Addr} (ha : v.ownBlock ≠ some a.block) (u : Value) : (w.setCell a u).ownsRow base e size v n xs := by
 refine ⟨h.1, ?_⟩
 rcases h.2 with hn | ⟨g, cap, cur, rfl, hb, hg, r⟩
 ·
  exact .inl hn
 ·
  exact .inr ⟨g, cap, cur, rfl, hb, by rw [Below.heap_setCell _ _ _ _ (fun e => ha (by simp [Value.ownBlock, e]))]; exact hg, r⟩
theorem block_setCell {w : World} {b : Nat} {cs : Array Value} {t : TypeId} {fr : Nat × Nat} (h : w.heap[b]? = some (.cells cs t fr)) (i : Nat) (u : Value) :
  (w.setCell ⟨b, i, none⟩ u).heap[b]? = some (.cells (cs.setIfInBounds i u) t fr) := by
 simp [World.setCell, Array.getElem?_modify, h]
theorem frozen_of_block {w : World} {b : Nat} {cs : Array Value} {t : TypeId} (h : w.heap[b]? = some (.cells cs t (0, 0))) (i : Nat) : w.frozen? ⟨b, i, none⟩ = false := by
 simp [World.frozen?, h]
theorem block_lt {w : World} {b : Nat} {o : Obj} (h : w.heap[b]? = some o) : b < w.heap.size := (Array.getElem?_eq_some_iff.1 h).1
theorem block_alloc {w : World} {b : Nat} {x : Obj} (h : w.heap[b]? = some x) (o : Obj) : (w.alloc o).heap[b]? = some x :=
 (Below.heap_alloc w o b (block_lt h)).trans h
theorem block_grown {w w' : World} {b : Nat} {x : Obj} {row : Option Nat} (h : w.heap[b]? = some x) (hg : w.grownBy w' row) (hne : row ≠ some b) : w'.heap[b]? = some x :=
 (hg.block b (block_lt h) (fun e => hne e.symm)).trans h
theorem block_mods {w w' : World} {b : Nat} {x : Obj} {F : Nat → Prop} (h : w.heap[b]? = some x) (hm : Mods F w w') (hne : ¬ F b) : w'.heap[b]? = some x :=
 (hm.block b (block_lt h) hne).trans h
theorem cells_row (w : World) (b : Nat) {cs : Array Value} {t : TypeId} {fr : Nat × Nat} (h : w.heap[b]? = some (.cells cs t fr)) (i : Nat) (v : Value) (hv : cs[i]? = some v) : w.cell? ⟨b, i, none⟩ = some v := by
 rw [cell_of_row w b i cs t fr h, hv]
theorem owns_cell {w : World} {base e size : Nat} {sa : Option Addr} {len cap n : Nat} {xs : List Value} (h : w.ownsRow base e size (.slice sa len cap) n xs) (hn : 0 < xs.length) :
  len = n ∧ n ≤ cap ∧ ∃ g, base ≤ g ∧ sa = some ⟨g, 0, none⟩ ∧ (∀ j u, xs[j]? = some u → w.cell? ⟨g, j, none⟩ = some u) ∧ (∀ j, w.frozen? ⟨g, j, none⟩ = false) ∧ g < w.heap.size := by
 rcases h.2 with ⟨h1, h2⟩ | ⟨g, cap', cur, hv, hb, hg, hnc, hm, hcs, ht⟩
 ·
  have := h.1
  subst h2
  omega
 ·
  cases hv
  refine ⟨rfl, hnc, g, hb, rfl, fun j u hu => ?_, fun j => frozen_of_block hg j, block_lt hg⟩
  have := h.cells (g := g) rfl j u hu
  rwa [show (⟨g, 0, none⟩ : Addr).add j = ⟨g, j, none⟩ by unfold Addr.add; split <;> simp_all] at this
theorem block_setCell_ne {w : World} {b : Nat} {x : Obj} (h : w.heap[b]? = some x) {a : Addr} (hne : b ≠ a.block) (u : Value) : (w.setCell a u).heap[b]? = some x :=
 (Below.heap_setCell w a u b hne).trans h
theorem size_setCell' (w : World) (a : Addr) (u : Value) : (w.setCell a u).heap.size = w.heap.size := by simp [World.setCell]
def Stop (p : Prop) : Prop := p
theorem stop_here {p : Prop} (h : Stop p) : p := h
theorem go_on {p : Prop} (h : p) : Stop p := h
theorem below_dr {B : Nat} {a b : World} {n : Nat} (h : Below B a b) : Below B a (b.drewN n) := ⟨h.os, h.tape, h.output, h.size, h.block⟩
theorem below_ld {B : Nat} {a b : World} {n : Nat} (h : Below B (a.drewN n) b) : Below B a b := ⟨h.os, h.tape, h.output, h.size, h.block⟩
theorem mods_dr {F : Nat → Prop} {a b : World} {n : Nat} (h : Mods F a b) : Mods F a (b.drewN n) := ⟨h.os, h.tape, h.output, h.size, h.block⟩
open Go.RowKit
theorem run_app2 {P : Program} (w : World) (base : Nat) (t ty e : TypeId) (i : TypeInfo) (z : Value) (size bytes : Nat) (ht : P.underlying t = some (.slice e)) (hi : P.info? e = some i) (hz : i.zero = some z)
  (hsize : i.size = size) (hby : i.bytes = bytes) (hzs : z.cells.size = size)
  (v : Value) (n : Nat) (xs : List Value) (hown : w.ownsRow base e size v n xs)
  (ao : Option Addr) (m c : Nat) (news : List Value) (hl : news.length = m * size) (hnone : ao = none → m = 0) (hnews : ∀ a, ao = some a → ∀ j u, news[j]? = some u → w.cell? (a.add j) = some u) (h1 : ∀ u ∈ news, u.oneCell' = true)
  (h63 : n + m ≤ maxLen) (hgrow : ∀ old, old < n + m → Builtin.nextslicecap (n + m) old * bytes ≤ 281474976710656) (hbase : base ≤ w.heap.size) :
  ∃ v' w', (Builtin.append_ #[t, t] ty #[v, .slice ao m c]).run P w = .ok v' w' ∧ w'.ownsRow base e size v' (n + m) (xs ++ news) ∧ w.grownBy w' v.ownBlock ∧
   (v' = .slice none 0 0 ↔ v = .slice none 0 0 ∧ m = 0) ∧ (v'.ownBlock = v.ownBlock ∨ v'.ownBlock = some w.heap.size ∧ w.grownBy w' none) := by
 subst hsize
 subst hby
 cases ao with
 | none =>
  obtain rfl := hnone rfl
  have hn : news = [] := List.eq_nil_of_length_eq_zero (by simpa using hl)
  subst hn
  refine ⟨v, w, ?_, by simpa using hown, World.grownBy.refl _ _, by simp, .inl rfl⟩
  rcases hown.2 with ⟨rfl, rfl⟩ | ⟨g, cap, cur, rfl, _, _, hnc, _⟩
  ·
   simp [Builtin.append_, run_underlying ht, sizeOf, typeInfo, hi, Builtin.lenOf, Builtin.firstCells]
  ·
   simp [Builtin.append_, run_underlying ht, sizeOf, typeInfo, hi, Builtin.lenOf, Builtin.firstCells, hnc, storeCells]
 | some a =>
  have hnews := hnews a rfl
  have hsmall : n + m ≤ 9223372036854775807 := by simp only [maxLen] at h63; omega
  have hlen : (xs ++ news).length = (n + m) * i.size := by rw [List.length_append, hown.1, hl, Nat.add_mul]
  have grown : ∀ (old : Nat), old < n + m → ∀ (row : Option Nat),
    (w.drew.alloc (.cells (xs.toArray ++ news.toArray ++ Builtin.zeroCells z.cells (grownCap w (n + m) old e - (n + m))) e)).ownsRow base e i.size
     (.slice (some ⟨w.heap.size, 0, none⟩) (n + m) (grownCap w (n + m) old e)) (n + m) (xs ++ news) ∧
    w.grownBy (w.drew.alloc (.cells (xs.toArray ++ news.toArray ++ Builtin.zeroCells z.cells (grownCap w (n + m) old e - (n + m))) e)) row := by
   intro old ho row
   have hge := grownCap_ge w (n + m) old e
   have hcm : grownCap w (n + m) old e ≤ maxLen := grownCap_le_maxLen w (n + m) old e h63
   refine ⟨⟨hlen, .inr ⟨w.heap.size, _, _, rfl, hbase, heap_alloc_new w.drew _, hge, hcm, ?_, ?_⟩⟩, ⟨rfl, rfl, rfl, by simp, fun k hk _ => Below.heap_alloc w.drew _ k (by simpa using hk)⟩⟩
   ·
    simp only [Array.size_append, List.size_toArray, size_zeroCells, hzs, hown.1, hl, ← Nat.add_mul]
    congr 1
    omega
   ·
    simp only [Array.toList_append, List.append_assoc]
    rw [← List.append_assoc, ← hlen]
    exact List.take_left
  rcases hown.2 with ⟨rfl, rfl⟩ | ⟨g, cap, cur, rfl, hbg, hg, hnc, hcm, hcs, htake⟩
  ·
   have hx : xs = [] := List.eq_nil_of_length_eq_zero (by simpa using hown.1)
   subst hx
   by_cases hm : m = 0
   ·
    subst hm
    have hn : news = [] := List.eq_nil_of_length_eq_zero (by simpa using hl)
    subst hn
    refine ⟨.slice none 0 0, w, ?_, World.ownsRow_nil w base e i.size, World.grownBy.refl _ _, by simp, .inl rfl⟩
    simp [Builtin.append_, run_underlying ht, sizeOf, typeInfo, hi, Builtin.lenOf, Builtin.firstCells, loadCells, loadCellsFrom]
   ·
    have hb0 := hgrow 0 (by omega)
    simp only [Nat.zero_add, nextslicecap_zero (need := m) (by omega)] at hb0
    have hr := run_append_nil (P := P) w t ty e i z ht hi hz a m c news hl hnews (by omega) (by omega) hb0
    have hgr := grown 0 (by omega) (Value.ownBlock (.slice none 0 0))
    simp only [Nat.zero_add, List.nil_append, Array.empty_append] at hgr ⊢
    have hgn := grown 0 (by omega) none
    simp only [Nat.zero_add, List.nil_append, Array.empty_append] at hgn
    exact ⟨_, _, hr, hgr.1, hgr.2, by simp [hm], .inr ⟨rfl, hgn.2⟩⟩
  ·
   by_cases hroom : n + m ≤ cap
   ·
    have hfit : n * i.size + news.length ≤ cur.size := by rw [hl, hcs, ← Nat.add_mul]; exact Nat.mul_le_mul_right _ hroom
    have hr := run_append_room (P := P) w t ty e i ht hi g n cap cur hg a m c news hl hnews h1 hroom hfit
    refine ⟨_, _, hr, ⟨hlen, .inr ⟨g, cap, _, rfl, hbg, setRow_heap w g cur _ e _ hg, hroom, hcm, ?_, ?_⟩⟩, ⟨rfl, rfl, rfl, by simp, fun k _ hk => setRow_other w g k _ (fun e => hk (by simp [Value.ownBlock, e]))⟩, by simp, .inl rfl⟩
    ·
     simp only [List.size_toArray, List.length_append, List.length_take, List.length_drop, Array.length_toList]
     omega
    ·
     rw [htake, ← hlen]
     exact List.take_left
   ·
    have holds : ∀ j u, xs[j]? = some u → w.cell? ((⟨g, 0, none⟩ : Addr).add j) = some u := hown.cells (g := g) rfl
    have hr := run_append_grow (P := P) w t ty e i z ht hi hz ⟨g, 0, none⟩ n cap xs hown.1 holds a m c news hl hnews (by omega) (by omega) (hgrow cap (by omega))
    have hgr := grown cap (by omega) (Value.ownBlock (.slice (some ⟨g, 0, none⟩) n cap))
    exact ⟨_, _, hr, hgr.1, hgr.2, by simp, .inr ⟨rfl, (grown cap (by omega) none).2⟩⟩
theorem wp_app2 {P : Program} {w : World} {o : Oper} {a : Act} {K : Act → World → Prop} {Q : Exit → Act → World → Prop} (s x : Operand) (t : TypeId)
  (ho : o.op = .call { callee := .builtin .append, args := #[s, x], argTypes := #[t, t] })
  (base : Nat) (e : TypeId) (i : TypeInfo) (z : Value) (size bytes : Nat) (ht : P.underlying t = some (.slice e)) (hi : P.info? e = some i) (hz : i.zero = some z)
  (hsize : i.size = size) (hby : i.bytes = bytes) (hzs : z.cells.size = size)
  (v : Value) (n : Nat) (xs : List Value) (hs : a.eval s = v) (hown : w.ownsRow base e size v n xs)
  (ao : Option Addr) (m c : Nat) (news : List Value) (hx : a.eval x = .slice ao m c) (hl : news.length = m * size) (hnone : ao = none → m = 0) (hnews : ∀ ad, ao = some ad → ∀ j u, news[j]? = some u → w.cell? (ad.add j) = some u) (h1 : ∀ u ∈ news, u.oneCell' = true)
  (h63 : n + m ≤ maxLen) (hgrow : ∀ old, old < n + m → Builtin.nextslicecap (n + m) old * bytes ≤ 281474976710656) (hbase : base ≤ w.heap.size)
  (h : ∀ v' w', w'.ownsRow base e size v' (n + m) (xs ++ news) → w.grownBy w' v.ownBlock → (v' = .slice none 0 0 ↔ v = .slice none 0 0 ∧ m = 0) → (v'.ownBlock = v.ownBlock ∨ v'.ownBlock = some w.heap.size ∧ w.grownBy w' none) → K (a.put o.dst v') w') : o.wp P a w K Q := by
 obtain ⟨v', w', hr, h2, h3, h4, h5⟩ := run_app2 (P := P) w base t o.type e i z size bytes ht hi hz hsize hby hzs v n xs hown ao m c news hl hnone hnews h1 h63 hgrow hbase
 unfold Oper.wp execOp
 simp only [ho, resolve, invoke, builtin, Sem.run_bind, Sem.run_pure, Result.andThen_ok, List.map_toArray, List.map_cons, List.map_nil, hs, hx, hr]
 exact h v' w' h2 h3 h4 h5
theorem wpList_app2 {P : Program} {w : World} {ops : Array Oper} {rest : List Oper} {o : Oper} {a : Act} {Q : Exit → Act → World → Prop} (hgd : o.guard = none) (s x : Operand) (t : TypeId)
  (ho : o.op = .call { callee := .builtin .append, args := #[s, x], argTypes := #[t, t] })
  (base : Nat) (e : TypeId) (i : TypeInfo) (z : Value) (size bytes : Nat) (ht : P.underlying t = some (.slice e)) (hi : P.info? e = some i) (hz : i.zero = some z)
  (hsize : i.size = size) (hby : i.bytes = bytes) (hzs : z.cells.size = size)
  (v : Value) (n : Nat) (xs : List Value) (hs : a.eval s = v) (hown : w.ownsRow base e size v n xs)
  (ao : Option Addr) (m c : Nat) (news : List Value) (hx : a.eval x = .slice ao m c) (hl : news.length = m * size) (hnone : ao = none → m = 0) (hnews : ∀ ad, ao = some ad → ∀ j u, news[j]? = some u → w.cell? (ad.add j) = some u) (h1 : ∀ u ∈ news, u.oneCell' = true)
  (h63 : n + m ≤ maxLen) (hgrow : ∀ old, old < n + m → Builtin.nextslicecap (n + m) old * bytes ≤ 281474976710656) (hbase : base ≤ w.heap.size)
  (h : ∀ v' w', w'.ownsRow base e size v' (n + m) (xs ++ news) → w.grownBy w' v.ownBlock → (v' = .slice none 0 0 ↔ v = .slice none 0 0 ∧ m = 0) → (v'.ownBlock = v.ownBlock ∨ v'.ownBlock = some w.heap.size ∧ w.grownBy w' none) → wpList P ops Q rest (a.put o.dst v') w') : wpList P ops Q (o :: rest) a w :=
 wpList_plain hgd fun _ hK => wp_app2 s x t ho base e i z size bytes ht hi hz hsize hby hzs v n xs hs hown ao m c news hx hl hnone hnews h1 h63 hgrow hbase fun v' w' h2 h3 h4 h5 => hK _ _ (h v' w' h2 h3 h4 h5)
end Go.Proofs.Ytbmbfifempkhgaa

/- Colours of blocks: what a structure holds bears one colour, a step turns blocks of some colours alone, and all of other colours stays. No program in sight. -/
namespace Go.Proofs.Ytbmbfifempkhgaa
open Go.RowKit
abbrev Col := Nat → Nat
def ext (o : Col) (n c : Nat) : Col := fun k => if k < n then o k else c
theorem ext_old {o : Col} {n c k : Nat} (h : k < n) : ext o n c k = o k := by simp [ext, h]
theorem ext_new {o : Col} {n c k : Nat} (h : n ≤ k) : ext o n c k = c := by simp [ext, Nat.not_lt.2 h]
structure Turn (o o' : Col) (C : Nat → Prop) (w w' : World) : Prop where
 mods : Mods (fun k => C (o k)) w w'
 same : ∀ k, k < w.heap.size → o' k = o k
section
variable {o o' o1 o2 : Col} {C D : Nat → Prop} {w w' w1 w2 : World} {c d : Nat}
theorem Turn.size (h : Turn o o' C w w') : w.heap.size ≤ w'.heap.size := h.mods.size
theorem Turn.refl (o : Col) (C : Nat → Prop) (w : World) : Turn o o C w w := ⟨Mods.refl _ _, fun _ _ => rfl⟩
theorem Turn.trans (h : Turn o o1 C w w1) (k : Turn o1 o2 D w1 w2) (hD : ∀ c, D c → C c) : Turn o o2 C w w2 :=
 ⟨h.mods.trans k.mods (fun _ _ h => h) (fun n hn f => by rw [← h.same n hn]; exact hD _ f), fun n hn => (k.same n (Nat.lt_of_lt_of_le hn h.size)).trans (h.same n hn)⟩
theorem Turn.mono (h : Turn o o' C w w') (hD : ∀ c, C c → D c) : Turn o o' D w w' := ⟨h.mods.mono fun _ _ f => hD _ f, h.same⟩
theorem Turn.drewN (h : Turn o o' C w w') (n : Nat) : Turn o o' C w (w'.drewN n) := ⟨h.mods.drewN n, h.same⟩
theorem Turn.drew (h : Turn o o' C w w') : Turn o o' C w w'.drew := ⟨h.mods.drew, h.same⟩
theorem Turn.of_below (o : Col) (c : Nat) (h : Below w.heap.size w w') : Turn o (ext o w.heap.size c) (fun _ => False) w w' := ⟨Mods.of_below h _, fun _ hk => ext_old hk⟩
theorem Turn.of_quiet (o : Col) (h : ∃ m, w' = w.drewN m) : Turn o o (fun _ => False) w w' := by obtain ⟨m, rfl⟩ := h; exact (Turn.refl _ _ _).drewN m
theorem Turn.of_mods {F : Nat → Prop} (o : Col) (c : Nat) (h : Mods F w w') (hF : ∀ k, k < w.heap.size → F k → C (o k)) : Turn o (ext o w.heap.size c) C w w' := ⟨h.mono hF, fun _ hk => ext_old hk⟩
theorem Turn.below (h : Turn o o' C w w') {B : Nat} (hB : B ≤ w.heap.size) (hC : ∀ k, k < B → ¬ C (o k)) : Below B w w' := h.mods.below hB hC
theorem Turn.block (h : Turn o o' C w w') {b : Nat} {x : Obj} (hb : w.heap[b]? = some x) (hc : ¬ C (o b)) : w'.heap[b]? = some x ∧ o' b = o b := ⟨block_mods hb h.mods hc, h.same b (block_lt hb)⟩
theorem Turn.cell (h : Turn o o' C w w') {p : Addr} {v : Value} (hp : w.cell? p = some v) (hc : ¬ C (o p.block)) : w'.cell? p = some v := (h.mods.cell (World.block_lt_of_cell? _ _ hp) hc).trans hp
def Blk (w : World) (o : Col) (c b : Nat) (t : TypeId) (cs : Array Value) : Prop := w.heap[b]? = some (.cells cs t (0, 0)) ∧ o b = c
theorem Blk.lt {b : Nat} {t : TypeId} {cs : Array Value} (h : Blk w o c b t cs) : b < w.heap.size := block_lt h.1
theorem Blk.turn {b : Nat} {t : TypeId} {cs : Array Value} (h : Blk w o c b t cs) (T : Turn o o' C w w') (hc : ¬ C c) : Blk w' o' c b t cs := by
 obtain ⟨h1, h2⟩ := T.block h.1 (by rw [h.2]; exact hc)
 exact ⟨h1, h2.trans h.2⟩
theorem Blk.cell {b : Nat} {t : TypeId} {cs : Array Value} (h : Blk w o c b t cs) (i : Nat) (v : Value) (hv : cs[i]? = some v) : w.cell? ⟨b, i, none⟩ = some v := cells_row w b h.1 i v hv
theorem Blk.frozen {b : Nat} {t : TypeId} {cs : Array Value} (h : Blk w o c b t cs) (i : Nat) : w.frozen? ⟨b, i, none⟩ = false := frozen_of_block h.1 i
theorem Blk.drewN {b : Nat} {t : TypeId} {cs : Array Value} (h : Blk w o c b t cs) (m : Nat) : Blk (w.drewN m) o c b t cs := h
theorem Blk.set {b : Nat} {t : TypeId} {cs : Array Value} (h : Blk w o c b t cs) (i : Nat) (u : Value) : Blk (w.setCell ⟨b, i, none⟩ u) o c b t (cs.setIfInBounds i u) ∧ Turn o o (fun x => x = c) w (w.setCell ⟨b, i, none⟩ u) :=
 ⟨⟨block_setCell h.1 i u, h.2⟩, ⟨(Mods.refl (fun k => o k = c) w).setCell (p := ⟨b, i, none⟩) (fun _ => h.2) u, fun _ _ => rfl⟩⟩
theorem Blk.recol {b : Nat} {t : TypeId} {cs : Array Value} (h : Blk w o c b t cs) {o' : Col} {c' : Nat} (ho : o' b = c') : Blk w o' c' b t cs := ⟨h.1, ho⟩
def Vals (w : World) (o : Col) (c : Nat) (v : Value) (vs : List Value) : Prop :=
 (vs = [] ∧ ∃ ao cap, v = .slice ao 0 cap) ∨ (0 < vs.length ∧ ∃ b off cap, v = .slice (some ⟨b, off, none⟩) vs.length cap ∧ vs.length ≤ cap ∧ b < w.heap.size ∧ o b = c ∧ ∀ k, k < vs.length → w.cell? ⟨b, off + k, none⟩ = some (vs[k]?.getD undef))
theorem Vals.turn {v : Value} {vs : List Value} (h : Vals w o c v vs) (T : Turn o o' C w w') (hc : ¬ C c) : Vals w' o' c v vs := by
 rcases h with h | ⟨hp, b, off, cap, rfl, hl, hb, ho, hcl⟩
 ·
  exact .inl h
 ·
  exact .inr ⟨hp, b, off, cap, rfl, hl, Nat.lt_of_lt_of_le hb T.size, (T.same b hb).trans ho, fun k hk => T.cell (hcl k hk) (by show ¬ C (o b); rw [ho]; exact hc)⟩
theorem Vals.drewN {v : Value} {vs : List Value} (h : Vals w o c v vs) (m : Nat) : Vals (w.drewN m) o c v vs := h.turn ((Turn.refl o (fun _ => False) w).drewN m) (fun h => h)
theorem Vals.slice {v : Value} {vs : List Value} (h : Vals w o c v vs) : ∃ ao cap, v = .slice ao vs.length cap := by
 rcases h with ⟨rfl, ao, cap, rfl⟩ | ⟨_, b, off, cap, rfl, _⟩
 ·
  exact ⟨_, _, rfl⟩
 ·
  exact ⟨_, _, rfl⟩
theorem Vals.at {ao : Option Addr} {n cap : Nat} {vs : List Value} (h : Vals w o c (.slice ao n cap) vs) (hp : 0 < vs.length) : ∃ b off, ao = some ⟨b, off, none⟩ ∧ n = vs.length ∧ n ≤ cap ∧ b < w.heap.size ∧ o b = c ∧ ∀ k, k < vs.length → w.cell? ⟨b, off + k, none⟩ = some (vs[k]?.getD undef) := by
 rcases h with ⟨rfl, _⟩ | ⟨_, b, off, cap', hv, hl, hb, ho, hcl⟩
 ·
  simp at hp
 ·
  cases hv
  exact ⟨b, off, rfl, rfl, hl, hb, ho, hcl⟩
theorem Vals.len {ao : Option Addr} {n cap : Nat} {vs : List Value} (h : Vals w o c (.slice ao n cap) vs) : n = vs.length := by
 obtain ⟨ao', cap', e⟩ := h.slice
 cases e; rfl
theorem Vals.nil (w : World) (o : Col) (c : Nat) (ao : Option Addr) (cap : Nat) : Vals w o c (.slice ao 0 cap) [] := .inl ⟨rfl, ao, cap, rfl⟩
theorem Vals.news {ao : Option Addr} {n cap : Nat} {vs : List Value} (h : Vals w o c (.slice ao n cap) vs) : (ao = none → n = 0) ∧ ∀ ad, ao = some ad → ∀ j u, vs[j]? = some u → w.cell? (ad.add j) = some u := by
 rcases h with ⟨rfl, ao', cap', e⟩ | ⟨hp, b, off, cap', e, hl, hb, ho, hcl⟩
 ·
  cases e
  exact ⟨fun _ => rfl, fun _ _ j u hu => by simp at hu⟩
 ·
  cases e
  refine ⟨(fun h => by cases h), fun ad had j u hu => ?_⟩
  obtain rfl := Option.some.inj had
  rw [Addr.add_lit]
  have hj := (List.getElem?_eq_some_iff.1 hu).1
  rw [hcl j hj, hu]
  rfl
theorem vals_of_cells {ao : Option Addr} {vs : List Value} {cap : Nat} (hcap : vs.length ≤ cap) (hn : ao = none → vs.length = 0) (hsp : ∀ a, ao = some a → a.spot = none) (h : ∀ ad, ao = some ad → ∀ j u, vs[j]? = some u → w.cell? (ad.add j) = some u)
  (ho : ∀ a, ao = some a → a.block < w.heap.size → o a.block = c) : Vals w o c (.slice ao vs.length cap) vs := by
 by_cases hp : 0 < vs.length
 ·
  cases ao with
  | none => have := hn rfl; omega
  | some a =>
   obtain ⟨b, off, spot⟩ := a
   obtain rfl : spot = none := hsp _ rfl
   have hcl : ∀ k, k < vs.length → w.cell? ⟨b, off + k, none⟩ = some (vs[k]?.getD undef) := fun k hk => by
    have := h ⟨b, off, none⟩ rfl k vs[k] (by simp [hk])
    rw [Addr.add_lit] at this
    simpa [hk] using this
   have hb := World.block_lt_of_cell? _ _ (hcl 0 hp)
   exact .inr ⟨hp, b, off, cap, rfl, hcap, hb, ho ⟨b, off, none⟩ rfl hb, hcl⟩
 ·
  obtain rfl : vs = [] := List.eq_nil_of_length_eq_zero (by omega)
  exact .inl ⟨rfl, ao, cap, rfl⟩
abbrev iv (n : Int) : Value := .int .i64 n
abbrev ivs (l : List Int) : List Value := l.map (Value.int .i64)
abbrev Ints (w : World) (o : Col) (c : Nat) (v : Value) (l : List Int) : Prop := Vals w o c v (ivs l)
theorem ivs_get {l : List Int} {k : Nat} (h : k < l.length) : (ivs l)[k]?.getD undef = iv (l[k]?.getD 0) := by simp [ivs, h]
theorem ivs_len (l : List Int) : (ivs l).length = l.length := by simp
theorem Ints.at {ao : Option Addr} {n cap : Nat} {l : List Int} (h : Ints w o c (.slice ao n cap) l) (hp : 0 < l.length) : ∃ b off, ao = some ⟨b, off, none⟩ ∧ n = l.length ∧ n ≤ cap ∧ b < w.heap.size ∧ o b = c ∧ ∀ k, k < l.length → w.cell? ⟨b, off + k, none⟩ = some (iv (l[k]?.getD 0)) := by
 obtain ⟨b, off, h1, h2, h3, h4, h5, h6⟩ := Vals.at h (by simpa using hp)
 exact ⟨b, off, h1, by simpa using h2, h3, h4, h5, fun k hk => by rw [h6 k (by simpa using hk), ivs_get hk]⟩
theorem Ints.len {ao : Option Addr} {n cap : Nat} {l : List Int} (h : Ints w o c (.slice ao n cap) l) : n = l.length := by simpa using Vals.len h
theorem Ints.slice {v : Value} {l : List Int} (h : Ints w o c v l) : ∃ ao cap, v = .slice ao l.length cap := by simpa using Vals.slice h
def Own (w : World) (o : Col) (c : Nat) (e size : Nat) (v : Value) (n : Nat) (xs : List Value) : Prop := w.ownsRow 0 e size v n xs ∧ ∀ k, v.ownBlock = some k → o k = c
theorem Own.turn {e size n : Nat} {v : Value} {xs : List Value} (h : Own w o c e size v n xs) (T : Turn o o' C w w') (hc : ¬ C c) : Own w' o' c e size v n xs :=
 ⟨owns_kept h.1 T.mods (fun k hk f => hc (by rw [← h.2 k hk]; exact f)), fun k hk => (T.same k (h.1.lt k hk).2).trans (h.2 k hk)⟩
theorem Own.recol {e size n : Nat} {v : Value} {xs : List Value} (h : Own w o c e size v n xs) {o' : Col} {c' : Nat} (ho : ∀ k, v.ownBlock = some k → o' k = c') : Own w o' c' e size v n xs := ⟨h.1, ho⟩
theorem Own.drewN {e size n : Nat} {v : Value} {xs : List Value} (h : Own w o c e size v n xs) (m : Nat) : Own (w.drewN m) o c e size v n xs := h
theorem Own.made {e size n : Nat} {v : Value} {xs : List Value} (o : Col) (c : Nat) {N : Nat} (h : w'.ownsRow N e size v n xs) : Own w' (ext o N c) c e size v n xs :=
 ⟨owns_base h (fun _ _ => Nat.zero_le _), fun k hk => ext_new (h.lt k hk).1⟩
theorem Own.vals {e n : Nat} {v : Value} {vs : List Value} (h : Own w o c e 1 v n vs) : Vals w o c v vs := by
 have hl := h.1.1
 rcases h.1.2 with ⟨rfl, h0⟩ | ⟨g, cap, cur, rfl, _, hg, hnc, _, hcs, ht⟩
 ·
  subst h0
  obtain rfl : vs = [] := List.eq_nil_of_length_eq_zero (by simpa using hl)
  exact .inl ⟨rfl, none, 0, rfl⟩
 ·
  obtain rfl : vs.length = n := by simpa using hl
  refine vals_of_cells hnc (fun h => by cases h) (fun a ha => by cases ha; rfl) (fun ad had j u hu => ?_) (fun a ha _ => by cases ha; exact h.2 g rfl)
  obtain rfl := Option.some.inj had
  exact h.1.cells (g := g) rfl j u hu
theorem Own.len {e n : Nat} {v : Value} {vs : List Value} (h : Own w o c e 1 v n vs) : vs.length = n := by simpa using h.1.1
theorem Own.nil (w : World) (o : Col) (c e size : Nat) : Own w o c e size (.slice none 0 0) 0 [] := ⟨World.ownsRow_nil _ _ _ _, fun k hk => by simp [Value.ownBlock] at hk⟩
theorem Own.slice {e size n : Nat} {v : Value} {xs : List Value} (h : Own w o c e size v n xs) : ∃ ao cap, v = .slice ao n cap := owns_slice h.1
end
structure Kept (B : Nat) (o : Col) (w0 w : World) : Prop where
 below : Below B w0 w
 old : ∀ k, k < B → o k = 0
 size : B ≤ w.heap.size
theorem Kept.start (w : World) : Kept w.heap.size (fun _ => 0) w w := ⟨Below.refl _ _, fun _ _ => rfl, Nat.le_refl _⟩
theorem Kept.turn {B : Nat} {o o' : Col} {C : Nat → Prop} {w0 w w' : World} (h : Kept B o w0 w) (T : Turn o o' C w w') (hC : ¬ C 0) : Kept B o' w0 w' :=
 ⟨h.below.trans (T.below h.size (fun k hk f => hC (by rw [h.old k hk] at f; exact f))), fun k hk => (T.same k (Nat.lt_of_lt_of_le hk h.size)).trans (h.old k hk), Nat.le_trans h.size T.size⟩
end Go.Proofs.Ytbmbfifempkhgaa

/- Regions that draw their order: laws to walk them in one order. No program in sight. -/
namespace Go.Proofs.Ytbmbfifempkhgaa
open Go
def Ext (w w' : World) : Prop := w.heap.size ≤ w'.heap.size ∧ ∀ k, k < w.heap.size → w'.heap[k]? = w.heap[k]?
theorem Ext.refl (w : World) : Ext w w := ⟨Nat.le_refl _, fun _ _ => rfl⟩
theorem Ext.trans {a b c : World} (h : Ext a b) (k : Ext b c) : Ext a c :=
 ⟨Nat.le_trans h.1 k.1, fun n hn => (k.2 n (Nat.lt_of_lt_of_le hn h.1)).trans (h.2 n hn)⟩
theorem Ext.cell {w w' : World} (h : Ext w w') {p : Addr} {v : Value} (hc : w.cell? p = some v) : w'.cell? p = some v :=
 (World.cell?_of_block (w := w) (h.2 p.block (World.block_lt_of_cell? w p hc))).trans hc
def grows {α : Type} : Sem α → Prop
 | .pure _ => True
 | .load _ _ k => ∀ v, grows (k v)
 | .store .. => False
 | .new _ k => ∀ r, grows (k r)
 | .shape _ k => ∀ x, grows (k x)
 | .freeze .. => False
 | .frozen _ k => ∀ b, grows (k b)
 | .getObj _ k => ∀ o, grows (k o)
 | .setObj .. => False
 | .choose _ k => ∀ n, grows (k n)
 | .sys .. => False
 | .program k => ∀ p, grows (k p)
 | .mark _ k => grows k
 | .halt _ => True
theorem ext_push (w : World) (o : Obj) : Ext w { w with heap := w.heap.push o } :=
 ⟨by simp, fun k hk => by show (w.heap.push o)[k]? = _; rw [Array.getElem?_push, if_neg (by omega)]⟩
theorem grows_run {α : Type} {P : Program} : ∀ (s : Sem α) (w w' : World) (v : α), grows s → s.run P w = .ok v w' → Ext w w' := by
 intro s
 induction s with
 | pure a => intro w w' v _ h; simp only [Sem.run, Result.ok.injEq] at h; rw [← h.2]; exact Ext.refl _
 | load m a k ih =>
  intro w w' v hg h
  simp only [Sem.run] at h
  split at h
  ·
   exact ih _ w w' v (hg _) h
  ·
   split at h
   ·
    exact ih _ w w' v (hg _) h
   ·
    cases h
 | store m a v k ih => intro w w' v hg; exact hg.elim
 | new o k ih => intro w w' v hg h; simp only [Sem.run] at h; exact (ext_push w o).trans (ih _ _ w' v (hg _) h)
 | shape r k ih => intro w w' v hg h; simp only [Sem.run] at h; exact ih _ w w' v (hg _) h
 | freeze a n k ih => intro w w' v hg; exact hg.elim
 | frozen a k ih => intro w w' v hg h; simp only [Sem.run] at h; exact ih _ w w' v (hg _) h
 | getObj r k ih =>
  intro w w' v hg h
  simp only [Sem.run] at h
  split at h
  ·
   cases h
  ·
   exact ih _ w w' v (hg _) h
  ·
   cases h
 | setObj r o k ih => intro w w' v hg; exact hg.elim
 | choose q k ih =>
  intro w w' v hg h
  simp only [Sem.run] at h
  split at h
  ·
   exact ih _ w w' v (hg _) h
  ·
   exact ih _ { w with drawn := w.drawn + 1 } w' v (hg _) h
 | sys c k ih => intro w w' v hg; exact hg.elim
 | program k ih => intro w w' v hg h; simp only [Sem.run] at h; exact ih _ w w' v (hg _) h
 | mark m k ih => intro w w' v hg h; simp only [Sem.run] at h; exact ih w w' v hg h
 | halt x => intro w w' v _ h; cases h
theorem grows_bind {α β : Type} (s : Sem α) (f : α → Sem β) (hs : grows s) (hf : ∀ a, grows (f a)) : grows (s >>= f) := by
 show grows (s.bind f)
 induction s with
 | pure a => exact hf a
 | load m a k ih => exact fun v => ih v (hs v)
 | store m a v k ih => exact hs.elim
 | new o k ih => exact fun v => ih v (hs v)
 | shape r k ih => exact fun v => ih v (hs v)
 | freeze a n k ih => exact hs.elim
 | frozen a k ih => exact fun v => ih v (hs v)
 | getObj r k ih => exact fun v => ih v (hs v)
 | setObj r o k ih => exact hs.elim
 | choose q k ih => exact fun v => ih v (hs v)
 | sys c k ih => exact hs.elim
 | program k ih => exact fun v => ih v (hs v)
 | mark m k ih => exact ih hs
 | halt x => exact trivial
theorem grows_pure {α : Type} (a : α) : grows (pure a : Sem α) := trivial
theorem grows_stuck {α : Type} (s : String) : grows (stuck s : Sem α) := trivial
theorem grows_unsupported {α : Type} (s : Unsupported) : grows (unsupported s : Sem α) := trivial
theorem grows_program : grows Go.program := fun _ => trivial
theorem grows_newObj (o : Obj) : grows (newObj o) := fun _ => trivial
theorem grows_typeInfo (t : TypeId) : grows (typeInfo t) := by
 unfold typeInfo
 refine grows_bind _ _ grows_program fun p => ?_
 split
 ·
  exact grows_pure _
 ·
  exact grows_stuck _
theorem grows_underlying (t : TypeId) : grows (underlying t) := by
 unfold underlying
 refine grows_bind _ _ grows_program fun p => ?_
 split
 ·
  exact grows_pure _
 ·
  exact grows_stuck _
theorem grows_zeroValue (t : TypeId) : grows (zeroValue t) := by
 unfold zeroValue
 refine grows_bind _ _ (grows_typeInfo t) fun p => ?_
 split
 ·
  exact grows_pure _
 ·
  exact grows_unsupported _
theorem grows_sizeOf (t : TypeId) : grows (sizeOf t) := by
 unfold sizeOf
 exact grows_bind _ _ (grows_typeInfo t) fun p => grows_pure _
theorem grows_newRow (e : TypeId) (cs : Array Value) : grows (newRow e cs) := by
 unfold newRow
 exact grows_bind _ _ (grows_newObj _) fun p => grows_pure _
theorem grows_newVar (e : TypeId) (v : Value) : grows (newVar e v) := grows_newRow _ _
theorem grows_alloc (e : TypeId) : grows (Instr.alloc e true (.tuple #[])) := by
 unfold Instr.alloc
 refine grows_bind _ _ (grows_zeroValue e) fun z => ?_
 exact grows_bind _ _ (grows_newVar _ _) fun _ => grows_pure _
theorem grows_box (e : TypeId) (v : Value) : grows (Instr.box e v) := by
 unfold Instr.box
 exact grows_bind _ _ (grows_newVar _ _) fun _ => grows_pure _
theorem grows_buildSlice (t : TypeId) (n : Nat) (ps : Array (Nat × Value)) : grows (Instr.buildSlice t n ps) := by
 unfold Instr.buildSlice
 refine grows_bind _ _ (grows_underlying t) fun d => ?_
 split
 ·
  rename_i elem
  refine grows_bind _ _ (grows_sizeOf _) fun s => ?_
  have rest : ∀ z : Array Value, grows (match Instr.fill (fun i => some (i * s, s)) ((Array.range (n * s)).map (z[· % z.size]!)) ps.toList with
    | some cells => (do pure (Value.slice (some (← newRow elem cells)) n n) : Sem Value)
    | _ => stuck "buildSlice: a part of the wrong size") := by
   intro z
   split
   ·
    exact grows_bind _ _ (grows_newRow _ _) fun _ => grows_pure _
   ·
    exact grows_stuck _
  dsimp only
  split <;> split <;> first
   | exact grows_bind _ _ (grows_unsupported _) fun _ => grows_bind _ _ (grows_pure _) rest
   | exact grows_bind _ _ (grows_pure _) rest
   | exact grows_bind _ _ (grows_unsupported _) fun _ => grows_bind _ _ (grows_zeroValue _) fun _ => grows_bind _ _ (grows_pure _) rest
   | exact grows_bind _ _ (grows_zeroValue _) fun _ => grows_bind _ _ (grows_pure _) rest
 ·
  exact grows_stuck _
def makesB (o : Oper) : Bool := match o.op with | .alloc _ | .box _ _ | .buildSlice _ _ _ => true | _ => false
theorem makes_run {P : Program} {o : Oper} {ρ : Operand → Value} {w w' : World} {n : Next} (h : makesB o = true) (hr : (execOp ρ o).run P w = .ok n w') : (∃ v, n = .value v) ∧ Ext w w' := by
 have key : ∀ s : Sem Value, grows s → (Sem.bind s (fun v => Sem.pure (Next.value v))).run P w = .ok n w' → (∃ v, n = .value v) ∧ Ext w w' := by
  intro s hs h
  have hg : grows (Sem.bind s (fun v => Sem.pure (Next.value v))) := grows_bind s _ hs fun v => grows_pure _
  refine ⟨?_, grows_run _ _ _ _ hg h⟩
  clear hr hg
  induction s generalizing w with
  | pure a => simp only [Sem.bind, Sem.run, Result.ok.injEq] at h; exact ⟨a, h.1.symm⟩
  | load m a k ih =>
   simp only [Sem.bind, Sem.run] at h
   split at h
   ·
    exact ih _ (hs _) h
   ·
    split at h
    ·
     exact ih _ (hs _) h
    ·
     cases h
  | store m a v k ih => exact hs.elim
  | new o k ih => simp only [Sem.bind, Sem.run] at h; exact ih _ (hs _) h
  | shape r k ih => simp only [Sem.bind, Sem.run] at h; exact ih _ (hs _) h
  | freeze a n k ih => exact hs.elim
  | frozen a k ih => simp only [Sem.bind, Sem.run] at h; exact ih _ (hs _) h
  | getObj r k ih =>
   simp only [Sem.bind, Sem.run] at h
   split at h
   ·
    cases h
   ·
    exact ih _ (hs _) h
   ·
    cases h
  | setObj r o k ih => exact hs.elim
  | choose q k ih =>
   simp only [Sem.bind, Sem.run] at h
   split at h
   ·
    exact ih _ (hs _) h
   ·
    exact ih _ (hs _) h
  | sys c k ih => exact hs.elim
  | program k ih => simp only [Sem.bind, Sem.run] at h; exact ih _ (hs _) h
  | mark m k ih => simp only [Sem.bind, Sem.run] at h; exact ih hs h
  | halt x => cases h
 unfold makesB at h
 split at h
 ·
  rename_i e he
  refine key (Instr.alloc e true (.tuple #[])) (grows_alloc e) ?_
  simp only [execOp, he] at hr
  exact hr
 ·
  rename_i e x he
  refine key (Instr.box e (ρ x)) (grows_box e _) ?_
  simp only [execOp, he] at hr
  exact hr
 ·
  rename_i t n' ps he
  refine key (Instr.buildSlice t n' (ps.map fun (i, x) => (i, ρ x))) (grows_buildSlice _ _ _) ?_
  simp only [execOp, he] at hr
  exact hr
 ·
  cases h
section
variable {P : Program} {ops : Array Oper} {md : Region.Mode} {S : World → Prop} {Q : Exit → Act → World → Prop}
def wpAnyT (P : Program) (md : Region.Mode) (ops : Array Oper) (Q : Exit → Act → World → Prop) (S : World → Prop) (B : Nat → Bool) : Nat → Array Bool → Act → World → Prop
 | 0, listed, a, w => Region.ready md ops listed = [] ∧ Q .normal a w
 | fuel + 1, listed, a, w =>
  (Region.ready md ops listed = [] → Q .normal a w) ∧
  ∀ i ∈ Region.ready md ops listed, wpOp P ops Q i (fun a' w' => (B i = true → S w → S w') ∧ wpAnyT P md ops Q S B fuel (listed.setIfInBounds i true) a' w') a w
theorem wpAny_of_T {B : Nat → Bool} : ∀ (fuel : Nat) (listed : Array Bool) (a : Act) (w : World), wpAnyT P md ops Q S B fuel listed a w → wpAny P md ops Q fuel listed a w
 | 0, _, _, _, h => h
 | fuel + 1, _, _, _, h => ⟨h.1, fun i hi => wpOp_mono (fun a' w' h' => wpAny_of_T fuel _ a' w' h'.2) (h.2 i hi)⟩
def closedL (md : Region.Mode) (ops : Array Oper) (listed : Array Bool) : Prop :=
 ∀ j oj, ops[j]? = some oj → listed.getD j false = true → ∀ e ∈ oj.after, Region.binds md e = true → listed.getD e.on false = true
theorem closedL_set {listed : Array Bool} {i : Nat} (hc : closedL md ops listed) (hi : i ∈ Region.ready md ops listed) : closedL md ops (listed.setIfInBounds i true) := by
 obtain ⟨_, oi, hoi, hall⟩ := mem_ready.1 hi
 intro j oj hj hl e he hb
 by_cases hij : i = j
 ·
  subst hij
  have : oj = oi := Option.some.inj (hj.symm.trans hoi)
  subst this
  exact getD_set_true (hall e he hb)
 ·
  rw [getD_set_ne false hij] at hl
  exact getD_set_true (hc j oj hj hl e he hb)
def behindB (md : Region.Mode) (ops : Array Oper) : Nat → Nat → Nat → Bool
 | 0, j, i => Region.waitsFor md ops j i
 | f + 1, j, i => Region.waitsFor md ops j i || (List.range ops.size).any fun k => Region.waitsFor md ops j k && behindB md ops f k i
theorem behind_dep {listed : Array Bool} (hc : closedL md ops listed) : ∀ (f j i : Nat), behindB md ops f j i = true →
  (∀ oj, ops[j]? = some oj → ∀ e ∈ oj.after, Region.binds md e = true → listed.getD e.on false = true) → listed.getD i false = true := by
 have base : ∀ j i, Region.waitsFor md ops j i = true → (∀ oj, ops[j]? = some oj → ∀ e ∈ oj.after, Region.binds md e = true → listed.getD e.on false = true) → listed.getD i false = true := by
  intro j i h hd
  obtain ⟨oj, hoj, e, he, hb, hon⟩ := Region.waitsFor_spec h
  have := hd oj hoj e he hb
  rwa [hon] at this
 intro f
 induction f with
 | zero => exact base
 | succ f ih =>
  intro j i h hd
  simp only [behindB, Bool.or_eq_true, List.any_eq_true, Bool.and_eq_true] at h
  rcases h with h | ⟨k, _, h1, h2⟩
  ·
   exact base j i h hd
  ·
   have hk := base j k h1 hd
   exact ih k i h2 fun ok hok e he hb => hc k ok hok hk e he hb
theorem behind_ready {listed : Array Bool} (hc : closedL md ops listed) {f j i : Nat} (hb : behindB md ops f j i = true) (hj : j ∈ Region.ready md ops listed) : listed.getD i false = true := by
 obtain ⟨_, oj, hoj, hall⟩ := mem_ready.1 hj
 refine behind_dep hc f j i hb fun oj' hoj' e he hbd => ?_
 have : oj' = oj := Option.some.inj (hoj'.symm.trans hoj)
 subst this
 exact hall e he hbd
theorem wpAnyT_first {B : Nat → Bool} {S' : World → Prop} {i : Nat} {oi : Oper} {v : Value} (hi : ops[i]? = some oi) (hsel : ∀ (j : Nat) (o : Oper) cs b, ops[j]? = some o → o.op ≠ .select cs b)
  (hQ : ∀ c a w, Q (.panic c) (a.put oi.dst v) w → Q (.panic c) a w)
  (hk : ∀ (j : Nat) (listed : Array Bool) (w w' : World), closedL md ops listed → j ∈ Region.ready md ops listed → listed.getD i false = false → (B j = true → S w → S w') → S' w → S' w')
  (hSS : ∀ w, S' w → (B i = true → S w → S w)) :
  ∀ (fuel : Nat) (listed : Array Bool) (a : Act) (w : World), closedL md ops listed →
   (∀ j oj, ops[j]? = some oj → j ≠ i → listed.getD j true = false → (∀ e ∈ oj.after, Region.binds md e = true → e.on ≠ i) → oi.apart ops oj = true) →
   i ∈ Region.ready md ops listed → YieldsIf P ops S' oi v a → S' w →
   wpAnyT P md ops Q S B fuel (listed.setIfInBounds i true) (a.put oi.dst v) w → wpAnyT P md ops Q S B (fuel + 1) listed a w := by
 intro fuel
 induction fuel with
 | zero =>
  intro listed a w _ _ hr hy hS H
  refine ⟨fun h => (by rw [h] at hr; cases hr), fun j hj => ?_⟩
  by_cases hji : j = i
  ·
   subst hji; exact hy.wpOp hi hS ⟨hSS w hS, H⟩
  ·
   have := ready_mono hj hji
   rw [H.1] at this
   cases this
 | succ fuel ih =>
  intro listed a w hcl hfree hr hy hS H
  refine ⟨fun h => (by rw [h] at hr; cases hr), fun j hj => ?_⟩
  by_cases hji : j = i
  ·
   subst hji; exact hy.wpOp hi hS ⟨hSS w hS, H⟩
  ·
   have h1 := H.2 j (ready_mono hj hji)
   obtain ⟨hjun, oj, hoj, hall⟩ := mem_ready.1 hj
   have hiun := getD_both (mem_ready.1 hr).1
   have hnot : ∀ e ∈ oj.after, Region.binds md e = true → e.on ≠ i := fun e he hb heq => by
    have h1 := hall e he hb
    rw [heq, hiun] at h1
    cases h1
   have h2 := wpOp_putIf hoj (hfree j oj hoj hji hjun hnot) (fun cs b => hsel i oi cs b hi) (fun cs b => hsel j oj cs b hoj) hQ hy h1
   have hfree' : ∀ k ok, ops[k]? = some ok → k ≠ i → (listed.setIfInBounds j true).getD k true = false →
     (∀ e ∈ ok.after, Region.binds md e = true → e.on ≠ i) → oi.apart ops ok = true := fun k ok hk hki hun hno => by
    refine hfree k ok hk hki ?_ hno
    by_cases hjk : j = k
    ·
     subst hjk; exact hjun
    ·
     rw [getD_set_ne true hjk] at hun; exact hun
   refine wpOp_mono (fun a' w' h3 => ⟨h3.2.1, ih (listed.setIfInBounds j true) a' w' (closedL_set hcl hj) hfree' (ready_mono hr (Ne.symm hji)) h3.1 (hk j listed w w' hcl hj hiun h3.2.1 hS) ?_⟩) h2
   rw [Array.setIfInBounds_comm _ _ hji]
   exact h3.2.2
def seqL (md : Region.Mode) (ops : Array Oper) : List Nat → Array Bool → Bool
 | [], listed => (Region.ready md ops listed).isEmpty
 | k :: r, listed => decide (Region.ready md ops listed = [k]) && seqL md ops r (listed.setIfInBounds k true)
theorem wpOp_makes {k : Nat} {o : Oper} {K : Act → World → Prop} {a : Act} {w : World} (ho : ops[k]? = some o) (hm : makesB o = true) (h : wpOp P ops Q k K a w) :
  wpOp P ops Q k (fun a' w' => Ext w w' ∧ K a' w') a w := by
 unfold wpOp at *
 simp only [ho] at *
 split
 ·
  rename_i hw
  simp only [hw, if_true] at h
  refine h.imp ?_ id
  intro h
  unfold Oper.wp at *
  cases hr : (execOp a.eval o).run P w with
  | ok n w' =>
   rw [hr] at h
   obtain ⟨⟨v, rfl⟩, he⟩ := makes_run hm hr
   simp only [Oper.upon] at h ⊢
   exact ⟨he, h⟩
  | halt x w' =>
   rw [hr] at h
   cases x <;> simp only [Oper.upon] at h ⊢ <;> exact h
 ·
  rename_i hw
  simp only [hw] at h
  exact ⟨Ext.refl _, h⟩
def madeB (ops : Array Oper) (k : Nat) : Bool := match ops[k]? with | some o => makesB o | none => false
theorem wpAnyT_of_seq {B : Nat → Bool} (hSx : ∀ w w', Ext w w' → S w → S w') : ∀ (ks : List Nat) (l : List Oper) (listed : Array Bool) (a : Act) (w : World), l.map some = ks.map (fun k => ops[k]?) →
  (∀ k ∈ ks, B k = true → madeB ops k = true) → seqL md ops ks listed = true → wpList P ops Q l a w → wpAnyT P md ops Q S B ks.length listed a w
 | [], l, _, _, _, hl, _, hB, h => by
  have : l = [] := by simpa using hl
  subst this
  exact ⟨by simpa [seqL] using hB, h⟩
 | k :: ks, [], _, _, _, hl, _, _, _ => by simp at hl
 | k :: ks, o :: l, listed, a, w, hl, hmk, hB, h => by
  simp only [List.map_cons, List.cons.injEq] at hl
  have h0 : ops[k]? = some o := hl.1.symm
  simp only [seqL, Bool.and_eq_true, decide_eq_true_eq] at hB
  refine ⟨fun h1 => (by rw [hB.1] at h1; cases h1), fun i hi => ?_⟩
  rw [hB.1] at hi
  have hik : i = k := by simpa using hi
  subst hik
  have hw : wpOp P ops Q i (wpList P ops Q l) a w := by unfold wpOp; simp only [h0]; exact h
  by_cases hb : B i = true
  ·
   have hmade := hmk i (by simp) hb
   unfold madeB at hmade
   rw [h0] at hmade
   exact wpOp_mono (fun a' w' h' => ⟨fun _ hS => hSx _ _ h'.1 hS, wpAnyT_of_seq hSx ks l _ a' w' hl.2 (fun k hk => hmk k (by simp [hk])) hB.2 h'.2⟩) (wpOp_makes h0 hmade hw)
  ·
   exact wpOp_mono (fun a' w' h' => ⟨fun hbb => absurd hbb hb, wpAnyT_of_seq hSx ks l _ a' w' hl.2 (fun k hk => hmk k (by simp [hk])) hB.2 h'⟩) hw
def anyB (o : Oper) : Bool := match o.op with
 | .move _ | .assign _ | .pick _ _ _ | .nilCheck _ | .fieldAddr _ _ _ | .extract _ _ | .binOp _ _ _ _ _ | .unOp _ _ _ | .indexAddr _ _ _ | .build _ _ | .slice _ _ _ _ _ | .convert _ _ _ => true
 | _ => false
def wpReads (P : Program) (ops : Array Oper) (S : World → Prop) (Q : Act → Prop) : List Oper → Act → Prop
 | [], a => Q a
 | o :: rest, a => ∃ v, YieldsIf P ops (fun w => anyB o = true ∨ S w) o v a ∧ wpReads P ops S Q rest (a.put o.dst v)
theorem wpReads_nil {Q : Act → Prop} {a : Act} (h : Q a) : wpReads P ops S Q [] a := h
theorem wpReads_any {Q : Act → Prop} {a : Act} {o : Oper} {rest : List Oper} (v : Value) (h : Region.wanted o (yielded ops a.tmps) = true) (hv : ∀ w, (execOp a.eval o).run P w = .ok (.value v) w)
 (hk : wpReads P ops S Q rest (a.put o.dst v)) : wpReads P ops S Q (o :: rest) a := ⟨v, .inl ⟨h, fun w _ => hv w⟩, hk⟩
theorem wpReads_cons {Q : Act → Prop} {a : Act} {o : Oper} {rest : List Oper} (v : Value) (h : Region.wanted o (yielded ops a.tmps) = true) (hb : anyB o = false) (hv : ∀ w, S w → (execOp a.eval o).run P w = .ok (.value v) w)
 (hk : wpReads P ops S Q rest (a.put o.dst v)) : wpReads P ops S Q (o :: rest) a := ⟨v, .inl ⟨h, fun w hw => hw.elim (fun h => by rw [hb] at h; cases h) (hv w)⟩, hk⟩
theorem wpReads_skip {Q : Act → Prop} {a : Act} {o : Oper} {rest : List Oper} (h : Region.wanted o (yielded ops a.tmps) = false)
 (hk : wpReads P ops S Q rest (a.put o.dst undef)) : wpReads P ops S Q (o :: rest) a := ⟨undef, .inr ⟨h, rfl⟩, hk⟩
def anyAt (ops : Array Oper) (i : Nat) : Bool := match ops[i]? with | some o => anyB o | none => false
def lexHeadB (md : Region.Mode) (ops : Array Oper) (tail : List Nat) : List Nat → Array Bool → Bool
 | [], listed => seqL md ops tail listed
 | i :: r, listed => (Region.ready md ops listed).contains i && Region.free md ops listed i && lexHeadB md ops tail r (listed.setIfInBounds i true)
def lexOK (md : Region.Mode) (ops : Array Oper) (reads tail : List Nat) : Bool :=
 Region.noSelect ops && (reads.all fun i => anyAt ops i || (List.range ops.size).all fun j => madeB ops j || reads.contains j || behindB md ops ops.size j i) &&
 (tail.all fun k => !reads.contains k) && lexHeadB md ops tail reads (Array.replicate ops.size false)
def pickOps (ops : Array Oper) (ks : List Nat) : List Oper := ks.flatMap fun k => (ops.toList.drop k).take 1
theorem pick_one {k : Nat} {o : Oper} (h : ops[k]? = some o) (r : List Nat) : pickOps ops (k :: r) = o :: pickOps ops r := by
 have hk : k < ops.toList.length := by
  have := (Array.getElem?_eq_some_iff.1 h).1
  simpa using this
 have ho : ops.toList[k]? = some o := by simpa using h
 have : (ops.toList.drop k).take 1 = [o] := by
  rw [List.drop_eq_getElem_cons hk]
  simp only [List.take_succ_cons, List.take_zero]
  congr 1
  exact Option.some.inj ((List.getElem?_eq_getElem hk).symm.trans ho)
 simp only [pickOps, List.flatMap_cons, this, List.cons_append, List.nil_append]
theorem pick_map {ks : List Nat} (h : ∀ k ∈ ks, k < ops.size) : (pickOps ops ks).map some = ks.map fun k => ops[k]? := by
 induction ks with
 | nil => rfl
 | cons k r ih =>
  have hk := h k (by simp)
  rw [pick_one (Array.getElem?_eq_getElem hk), List.map_cons, List.map_cons, Array.getElem?_eq_getElem hk, ih fun x hx => h x (by simp [hx])]
theorem ready_lt {i : Nat} {listed : Array Bool} (h : i ∈ Region.ready md ops listed) : i < ops.size := by
 obtain ⟨_, o, ho, _⟩ := mem_ready.1 h
 exact (Array.getElem?_eq_some_iff.1 ho).1
theorem seqL_lt : ∀ (ks : List Nat) (listed : Array Bool), seqL md ops ks listed = true → ∀ k ∈ ks, k < ops.size
 | [], _, _, k, hk => by cases hk
 | x :: r, listed, h, k, hk => by
  simp only [seqL, Bool.and_eq_true, decide_eq_true_eq] at h
  rcases List.mem_cons.1 hk with rfl | hk
  ·
   exact ready_lt (md := md) (listed := listed) (by rw [h.1]; simp)
  ·
   exact seqL_lt r _ h.2 k hk
theorem wpAnyT_lex {reads tail : List Nat} (hsel : Region.noSelect ops = true) (hQ : ∀ c a a' w, Q (.panic c) a w → Q (.panic c) a' w)
  (hbe : ∀ i ∈ reads, anyAt ops i = false → ∀ j, j < ops.size → madeB ops j = true ∨ reads.contains j = true ∨ behindB md ops ops.size j i = true) (hd : ∀ k ∈ tail, reads.contains k = false) (hSx : ∀ w w', Ext w w' → S w → S w') :
  ∀ (r : List Nat) (listed : Array Bool) (a : Act) (w : World), (∀ i ∈ r, i ∈ reads) → closedL md ops listed → lexHeadB md ops tail r listed = true → S w →
   wpReads P ops S (fun a' => wpList P ops Q (pickOps ops tail) a' w) (pickOps ops r) a →
   wpAnyT P md ops Q S (fun j => madeB ops j || reads.contains j) (r.length + tail.length) listed a w
 | [], listed, a, w, _, _, hB, _, h => by
  rw [show ([] : List Nat).length + tail.length = tail.length by simp]
  refine wpAnyT_of_seq hSx tail _ listed a w (pick_map (seqL_lt tail listed hB)) (fun k hk hb => ?_) hB h
  have hb' : (madeB ops k || reads.contains k) = true := hb
  rw [hd k hk, Bool.or_false] at hb'
  exact hb'
 | i :: r, listed, a, w, hr, hcl, hB, hS, h => by
  simp only [lexHeadB, Bool.and_eq_true] at hB
  obtain ⟨⟨hrdy, hfree⟩, hB'⟩ := hB
  have hrdy' : i ∈ Region.ready md ops listed := by simpa using hrdy
  have hlt := ready_lt hrdy'
  have hi : ops[i]? = some ops[i] := Array.getElem?_eq_getElem hlt
  have hp : pickOps ops (i :: r) = ops[i] :: pickOps ops r := pick_one hi r
  rw [hp] at h
  obtain ⟨v, hy, hK⟩ := h
  rw [show (i :: r).length + tail.length = (r.length + tail.length) + 1 by simp; omega]
  refine wpAnyT_first (S' := fun w => anyB ops[i] = true ∨ S w) hi (Region.noSelect_spec hsel) (fun c a w h => hQ c _ _ w h) (fun j listed w w' hc hj hiun hb hS => ?_) (fun w _ _ h => h) _ listed a w hcl (Region.free_spec hi hfree) hrdy' hy (.inr hS) ?_
  ·
   rcases hS with hS | hS
   ·
    exact .inl hS
   ·
    cases hany : anyB ops[i] with
    | true => exact .inl rfl
    | false =>
     right
     rcases hbe i (hr i (by simp)) (by unfold anyAt; rw [hi]; exact hany) j (ready_lt hj) with h1 | h1 | h1
     ·
      exact hb (by simp [h1]) hS
     ·
      exact hb (by rw [h1]; simp) hS
     ·
      have := behind_ready hc h1 hj
      rw [hiun] at this
      cases this
  ·
   exact wpAnyT_lex hsel hQ hbe hd hSx r _ _ w (fun x hx => hr x (by simp [hx])) (closedL_set hcl hrdy') hB' hS hK
theorem wp_region_lex {id : Nat} {l : List Oper} {Q : Exit → Act → World → Prop} {a : Act} {w : World} (S : World → Prop) (reads tail : List Nat) (hm : P.follows .mixedOrders = true)
  (hB : lexOK .any l.toArray reads tail = true) (hlen : reads.length + tail.length = l.length) (hSx : ∀ w w', Ext w w' → S w → S w') (hS : S w.drew)
  (h : ∀ Q' : Exit → Act → World → Prop, (∀ a w, Q .normal a w → Q' .normal a w) → wpReads P l.toArray S (fun a' => wpList P l.toArray Q' (pickOps l.toArray tail) a' w.drew) (pickOps l.toArray reads) a) : (Code.region id l.toArray true).wp P Q a w := by
 refine wp_region_noPanic ?_
 refine wp_region_any hm ?_
 simp only [lexOK, Bool.and_eq_true, List.all_eq_true, List.mem_range, Bool.or_eq_true, Bool.not_eq_true'] at hB
 obtain ⟨⟨⟨hsel, hbe⟩, hd⟩, hl⟩ := hB
 refine wpAny_of_T (S := S) (B := fun j => madeB l.toArray j || reads.contains j) _ _ _ _ ?_
 have key := wpAnyT_lex (P := P) (md := .any) (Q := NoPanic Q) (S := S) (reads := reads) (tail := tail) hsel (fun c a a' w h => h) (fun i hi hany j hj => by
  rcases hbe i hi with h0 | h0
  ·
   rw [hany] at h0; cases h0
  rcases h0 j hj with (h1 | h1) | h1
  ·
   exact .inl h1
  ·
   exact .inr (.inl h1)
  ·
   exact .inr (.inr h1)) hd hSx reads (Array.replicate l.toArray.size false) a { w with drawn := w.drawn + 1 } (fun _ h => h)
  (fun j oj _ hl => by rw [getD_replicate_false] at hl; cases hl) hl hS (h (NoPanic Q) (fun _ _ h => NoPanic.normal h))
 rw [hlen] at key
 simpa using key
end
section
variable {P : Program} {md : Region.Mode} {ops : Array Oper} {Q : Exit → Act → World → Prop} {S : World → Prop}
def wpSeqM (P : Program) (ops : Array Oper) (Q : Exit → Act → World → Prop) (S : World → Prop) (M : List Nat) : List Nat → Act → World → Prop
 | [], a, w => Q .normal a w
 | k :: r, a, w => wpOp P ops Q k (fun a' w' => (M.contains k = true → S w') ∧ wpSeqM P ops Q S M r a' w') a w
theorem madeB_some {k : Nat} (h : madeB ops k = true) : ∃ o, ops[k]? = some o ∧ makesB o = true := by
 unfold madeB at h
 cases ho : ops[k]? with
 | none => rw [ho] at h; cases h
 | some o => rw [ho] at h; exact ⟨o, rfl, h⟩
theorem wpAnyT_of_seqM {B : Nat → Bool} {M : List Nat} (hSx : ∀ w w', Ext w w' → S w → S w') : ∀ (ks : List Nat) (listed : Array Bool) (a : Act) (w : World),
  (∀ k ∈ ks, B k = true → madeB ops k = true ∨ M.contains k = true) → seqL md ops ks listed = true → wpSeqM P ops Q S M ks a w → wpAnyT P md ops Q S B ks.length listed a w
 | [], _, _, _, _, hB, h => ⟨by simpa [seqL] using hB, h⟩
 | k :: ks, listed, a, w, hmk, hB, h => by
  simp only [seqL, Bool.and_eq_true, decide_eq_true_eq] at hB
  refine ⟨fun h1 => (by rw [hB.1] at h1; cases h1), fun i hi => ?_⟩
  rw [hB.1] at hi
  have hik : i = k := by simpa using hi
  subst hik
  have hw : wpOp P ops Q i (fun a' w' => (M.contains i = true → S w') ∧ wpSeqM P ops Q S M ks a' w') a w := h
  by_cases hb : B i = true
  ·
   rcases hmk i (by simp) hb with hm | hm
   ·
    obtain ⟨o, ho, hmo⟩ := madeB_some hm
    exact wpOp_mono (fun a' w' h' => ⟨fun _ hS => hSx _ _ h'.1 hS, wpAnyT_of_seqM hSx ks _ a' w' (fun k hk => hmk k (by simp [hk])) hB.2 h'.2.2⟩) (wpOp_makes ho hmo hw)
   ·
    exact wpOp_mono (fun a' w' h' => ⟨fun _ _ => h'.1 hm, wpAnyT_of_seqM hSx ks _ a' w' (fun k hk => hmk k (by simp [hk])) hB.2 h'.2⟩) hw
  ·
   exact wpOp_mono (fun a' w' h' => ⟨fun hbb => absurd hbb hb, wpAnyT_of_seqM hSx ks _ a' w' (fun k hk => hmk k (by simp [hk])) hB.2 h'.2⟩) hw
def lexOKM (md : Region.Mode) (ops : Array Oper) (reads tail M : List Nat) : Bool :=
 Region.noSelect ops && (reads.all fun i => anyAt ops i || (List.range ops.size).all fun j => madeB ops j || reads.contains j || M.contains j || behindB md ops ops.size j i) &&
 (tail.all fun k => !reads.contains k) && lexHeadB md ops tail reads (Array.replicate ops.size false)
theorem wpAnyT_lexM {reads tail M : List Nat} (hsel : Region.noSelect ops = true) (hQ : ∀ c a a' w, Q (.panic c) a w → Q (.panic c) a' w)
  (hbe : ∀ i ∈ reads, anyAt ops i = false → ∀ j, j < ops.size → madeB ops j = true ∨ reads.contains j = true ∨ M.contains j = true ∨ behindB md ops ops.size j i = true) (hd : ∀ k ∈ tail, reads.contains k = false) (hSx : ∀ w w', Ext w w' → S w → S w') :
  ∀ (r : List Nat) (listed : Array Bool) (a : Act) (w : World), (∀ i ∈ r, i ∈ reads) → closedL md ops listed → lexHeadB md ops tail r listed = true → S w →
   wpReads P ops S (fun a' => wpSeqM P ops Q S M tail a' w) (pickOps ops r) a →
   wpAnyT P md ops Q S (fun j => madeB ops j || reads.contains j || M.contains j) (r.length + tail.length) listed a w
 | [], listed, a, w, _, _, hB, _, h => by
  rw [show ([] : List Nat).length + tail.length = tail.length by simp]
  refine wpAnyT_of_seqM hSx tail listed a w (fun k hk hb => ?_) hB h
  have hb' : (madeB ops k || reads.contains k || M.contains k) = true := hb
  rw [hd k hk, Bool.or_false, Bool.or_eq_true] at hb'
  exact hb'
 | i :: r, listed, a, w, hr, hcl, hB, hS, h => by
  simp only [lexHeadB, Bool.and_eq_true] at hB
  obtain ⟨⟨hrdy, hfree⟩, hB'⟩ := hB
  have hrdy' : i ∈ Region.ready md ops listed := by simpa using hrdy
  have hlt := ready_lt hrdy'
  have hi : ops[i]? = some ops[i] := Array.getElem?_eq_getElem hlt
  have hp : pickOps ops (i :: r) = ops[i] :: pickOps ops r := pick_one hi r
  rw [hp] at h
  obtain ⟨v, hy, hK⟩ := h
  rw [show (i :: r).length + tail.length = (r.length + tail.length) + 1 by simp; omega]
  refine wpAnyT_first (S' := fun w => anyB ops[i] = true ∨ S w) hi (Region.noSelect_spec hsel) (fun c a w h => hQ c _ _ w h) (fun j listed w w' hc hj hiun hb hS => ?_) (fun w _ _ h => h) _ listed a w hcl (Region.free_spec hi hfree) hrdy' hy (.inr hS) ?_
  ·
   rcases hS with hS | hS
   ·
    exact .inl hS
   ·
    cases hany : anyB ops[i] with
    | true => exact .inl rfl
    | false =>
     right
     rcases hbe i (hr i (by simp)) (by unfold anyAt; rw [hi]; exact hany) j (ready_lt hj) with h1 | h1 | h1 | h1
     ·
      exact hb (by simp [h1]) hS
     ·
      exact hb (by rw [h1]; simp) hS
     ·
      exact hb (by rw [h1]; simp) hS
     ·
      have := behind_ready hc h1 hj
      rw [hiun] at this
      cases this
  ·
   exact wpAnyT_lexM hsel hQ hbe hd hSx r _ _ w (fun x hx => hr x (by simp [hx])) (closedL_set hcl hrdy') hB' hS hK
def EndsAt (K : Act → World → Prop) : Exit → Act → World → Prop
 | .normal, a, w => K a w
 | _, _, _ => False
theorem wpOp_endsAt {K0 K K' : Act → World → Prop} (hK : ∀ a w, K a w → K' a w) {i : Nat} {a : Act} {w : World} (h : wpOp P ops (EndsAt K0) i K a w) : wpOp P ops Q i K' a w := by
 unfold wpOp at *
 cases ho : ops[i]? with
 | none => simp only [ho] at h ⊢; exact hK _ _ h
 | some o =>
  simp only [ho] at h ⊢
  split
  ·
   rename_i hw
   simp only [hw, if_true] at h
   have h1 := h.resolve_right (fun h => by obtain ⟨_, _, h⟩ := h.2; exact h)
   left
   unfold Oper.wp at *
   generalize (execOp a.eval o).run P w = r at h1
   cases r with
   | ok x w' =>
    cases x <;> simp only [Oper.upon] at h1 ⊢
    case value => exact hK _ _ h1
    case skip => exact hK _ _ h1
    case defer => exact hK _ _ h1
    case enter f args =>
     refine h1.mono fun e w'' he => ?_
     cases e with
     | returned v => exact hK _ _ he
     | panicked c => exact he.elim
     | outgrown => obtain ⟨_, _, h⟩ := he; exact h.elim
    case row => exact h1.mono fun v w'' he => hK _ _ he
   | halt x w' => cases x <;> simp only [Oper.upon] at h1 ⊢ <;> exact h1.elim
  ·
   rename_i hw
   simp only [hw] at h
   exact hK _ _ h
theorem wpSeqM_of_list {M ks : List Nat} (hM : ∀ k ∈ ks, M.contains k = false) : ∀ (ks' : List Nat), (∀ k ∈ ks', k ∈ ks) → (∀ k ∈ ks', k < ops.size) → ∀ (a : Act) (w : World), wpList P ops Q (pickOps ops ks') a w → wpSeqM P ops Q S M ks' a w
 | [], _, _, _, _, h => h
 | k :: r, hs, hl, a, w, h => by
  have hk : k < ops.size := hl k (by simp)
  have hi : ops[k]? = some ops[k] := Array.getElem?_eq_getElem hk
  rw [pick_one hi r] at h
  have hw : wpOp P ops Q k (wpList P ops Q (pickOps ops r)) a w := by unfold wpOp; simp only [hi]; exact h
  exact wpOp_mono (fun a' w' h' => ⟨fun hm => (by rw [hM k (hs k (by simp))] at hm; cases hm), wpSeqM_of_list hM r (fun x hx => hs x (by simp [hx])) (fun x hx => hl x (by simp [hx])) a' w' h'⟩) hw
theorem wpSeqM_split {k : Nat} {ks2 : List Nat} (hk2 : ks2.contains k = false) (hl2 : ∀ x ∈ ks2, x < ops.size) : ∀ (ks1 : List Nat), (∀ x ∈ ks1 ++ [k], x < ops.size) → ks1.contains k = false → ∀ (a : Act) (w : World),
  wpList P ops (EndsAt fun a w => S w ∧ wpList P ops Q (pickOps ops ks2) a w) (pickOps ops (ks1 ++ [k])) a w → wpSeqM P ops Q S [k] (ks1 ++ k :: ks2) a w
 | [], hl, _, a, w, h => by
  have hk : k < ops.size := hl k (by simp)
  have hi : ops[k]? = some ops[k] := Array.getElem?_eq_getElem hk
  simp only [List.nil_append] at h ⊢
  rw [pick_one hi []] at h
  have hw : wpOp P ops (EndsAt fun a w => S w ∧ wpList P ops Q (pickOps ops ks2) a w) k (wpList P ops (EndsAt fun a w => S w ∧ wpList P ops Q (pickOps ops ks2) a w) (pickOps ops [])) a w := by unfold wpOp; simp only [hi]; exact h
  exact wpOp_endsAt (fun a' w' h' => ⟨fun _ => h'.1, wpSeqM_of_list (ks := ks2) (fun x hx => by simp only [List.contains_eq_mem, decide_eq_false_iff_not] at hk2 ⊢; simp; rintro rfl; exact hk2 hx) ks2 (fun _ h => h) hl2 a' w' h'.2⟩) hw
 | x :: r, hl, hc, a, w, h => by
  have hx : x < ops.size := hl x (by simp)
  have hi : ops[x]? = some ops[x] := Array.getElem?_eq_getElem hx
  simp only [List.cons_append] at h ⊢
  rw [pick_one hi (r ++ [k])] at h
  have hw : wpOp P ops (EndsAt fun a w => S w ∧ wpList P ops Q (pickOps ops ks2) a w) x (wpList P ops (EndsAt fun a w => S w ∧ wpList P ops Q (pickOps ops ks2) a w) (pickOps ops (r ++ [k]))) a w := by unfold wpOp; simp only [hi]; exact h
  have hne : x ≠ k := fun e => by subst e; simp at hc
  exact wpOp_endsAt (fun a' w' h' => ⟨fun hm => (by simp at hm; exact absurd hm hne), wpSeqM_split hk2 hl2 r (fun y hy => hl y (by simp at hy ⊢; exact .inr hy)) (by simp at hc ⊢; exact hc.2) a' w' h'⟩) hw
def ltAll (ops : Array Oper) (l : List Nat) : Bool := l.all fun k => decide (k < ops.size)
theorem ltAll_spec {l : List Nat} (h : ltAll ops l = true) : ∀ k ∈ l, k < ops.size := fun k hk => by
 unfold ltAll at h
 exact of_decide_eq_true (List.all_eq_true.1 h k hk)
theorem wp_region_lex1 {id : Nat} {l : List Oper} {a : Act} {w : World} (S : World → Prop) (reads ks1 : List Nat) (k : Nat) (ks2 : List Nat) (hm : P.follows .mixedOrders = true)
  (hB : lexOKM .any l.toArray reads (ks1 ++ k :: ks2) [k] = true) (hlt : (ltAll l.toArray (ks1 ++ [k]) && ltAll l.toArray ks2 && !ks1.contains k && !ks2.contains k) = true) (hlen : reads.length + (ks1 ++ k :: ks2).length = l.length) (hSx : ∀ w w', Ext w w' → S w → S w') (hS : S w.drew)
  (h : ∀ Q' : Exit → Act → World → Prop, (∀ a w, Q .normal a w → Q' .normal a w) → wpReads P l.toArray S (fun a' => wpList P l.toArray (EndsAt fun a w => S w ∧ wpList P l.toArray Q' (pickOps l.toArray ks2) a w) (pickOps l.toArray (ks1 ++ [k])) a' w.drew) (pickOps l.toArray reads) a) : (Code.region id l.toArray true).wp P Q a w := by
 refine wp_region_noPanic ?_
 refine wp_region_any hm ?_
 simp only [lexOKM, Bool.and_eq_true, List.all_eq_true, List.mem_range, Bool.or_eq_true, Bool.not_eq_true'] at hB
 obtain ⟨⟨⟨hsel, hbe⟩, hd⟩, hl⟩ := hB
 simp only [Bool.and_eq_true, Bool.not_eq_true'] at hlt
 obtain ⟨⟨⟨hl1, hl2⟩, hc1⟩, hc2⟩ := hlt
 refine wpAny_of_T (S := S) (B := fun j => madeB l.toArray j || reads.contains j || [k].contains j) _ _ _ _ ?_
 have hr : ∀ (rs : List Oper) (a : Act), wpReads P l.toArray S (fun a' => wpList P l.toArray (EndsAt fun a w => S w ∧ wpList P l.toArray (NoPanic Q) (pickOps l.toArray ks2) a w) (pickOps l.toArray (ks1 ++ [k])) a' w.drew) rs a →
   wpReads P l.toArray S (fun a' => wpSeqM P l.toArray (NoPanic Q) S [k] (ks1 ++ k :: ks2) a' w.drew) rs a := by
  intro rs
  induction rs with
  | nil => exact fun a h => wpSeqM_split hc2 (ltAll_spec hl2) ks1 (ltAll_spec hl1) hc1 a _ h
  | cons o r ih => exact fun a ⟨v, hy, h⟩ => ⟨v, hy, ih _ h⟩
 have key := wpAnyT_lexM (P := P) (md := .any) (Q := NoPanic Q) (S := S) (reads := reads) (tail := ks1 ++ k :: ks2) (M := [k]) hsel (fun c a a' w h => h) (fun i hi hany j hj => by
  rcases hbe i hi with h0 | h0
  ·
   rw [hany] at h0; cases h0
  rcases h0 j hj with ((h1 | h1) | h1) | h1
  ·
   exact .inl h1
  ·
   exact .inr (.inl h1)
  ·
   exact .inr (.inr (.inl h1))
  ·
   exact .inr (.inr (.inr h1))) hd hSx reads (Array.replicate l.toArray.size false) a { w with drawn := w.drawn + 1 } (fun _ h => h)
  (fun j oj _ hl => by rw [getD_replicate_false] at hl; cases hl) hl hS (hr _ _ (h (NoPanic Q) (fun _ _ h => NoPanic.normal h)))
 rw [hlen] at key
 simpa using key
end
section
variable {P : Program} {md : Region.Mode} {ops : Array Oper} {S : World → Prop}
def YieldsC (P : Program) (ops : Array Oper) (S : World → Prop) (o : Oper) (v : Value) (a : Act) : Prop :=
 (Region.wanted o (yielded ops a.tmps) = true ∧ ∀ w, S w → (execOp a.eval o).run P w = .ok (.value v) w ∨
  ∃ f args, (execOp a.eval o).run P w = .ok (.enter f args) w ∧ Calls P f args w (fun e w'' => e = .returned v ∧ S w'')) ∨
 (Region.wanted o (yielded ops a.tmps) = false ∧ v = undef)
def softOp (P : Program) (ops : Array Oper) (S : World → Prop) (i : Nat) (K : Act → Prop) (a : Act) : Prop :=
 match ops[i]? with
 | none => K a
 | some o => ∃ v, YieldsC P ops S o v a ∧ K (a.put o.dst v)
theorem softOp_mono {i : Nat} {a : Act} {K K' : Act → Prop} (h : ∀ a, K a → K' a) (hh : softOp P ops S i K a) : softOp P ops S i K' a := by
 unfold softOp at *
 split
 ·
  rename_i ho; simp only [ho] at hh; exact h _ hh
 ·
  rename_i o ho
  simp only [ho] at hh
  obtain ⟨v, hy, hk⟩ := hh
  exact ⟨v, hy, h _ hk⟩
theorem wpOp_of_softOp {i : Nat} {a : Act} {w : World} {K : Act → Prop} {K' : Act → World → Prop} {Q' : Exit → Act → World → Prop} (h : ∀ a w', S w' → K a → K' a w') (hS : S w) (hh : softOp P ops S i K a) : wpOp P ops Q' i K' a w := by
 unfold softOp at hh
 unfold wpOp
 split
 ·
  rename_i ho; simp only [ho] at hh; exact h _ _ hS hh
 ·
  rename_i o ho
  simp only [ho] at hh
  obtain ⟨v, hy, hk⟩ := hh
  rcases hy with ⟨hw, hv⟩ | ⟨hw, rfl⟩
  ·
   simp only [hw, if_true]
   left
   unfold Oper.wp
   rcases hv w hS with hr | ⟨f, args, hr, hc⟩
   ·
    rw [hr]; exact h _ _ hS hk
   ·
    rw [hr]
    exact hc.mono fun e w'' ⟨he, hs⟩ => by subst he; exact h _ _ hs hk
  ·
   simp only [hw, Bool.false_eq_true, if_false]
   exact h _ _ hS hk
theorem YieldsC.of_same {o : Oper} {v : Value} {a a' : Act} (hy : YieldsC P ops S o v a) (he : execOp a'.eval o = execOp a.eval o)
  (hw : Region.wanted o (yielded ops a'.tmps) = Region.wanted o (yielded ops a.tmps)) : YieldsC P ops S o v a' := by
 unfold YieldsC at *
 rw [he, hw]
 exact hy
theorem softOp_put {j : Nat} {oi oj : Oper} {v : Value} (hj : ops[j]? = some oj) (hap : oi.apart ops oj = true)
  (hsi : ∀ cs b, oi.op ≠ .select cs b) (hsj : ∀ cs b, oj.op ≠ .select cs b) {K : Act → Prop} {a : Act}
  (hy : YieldsC P ops S oi v a) (h : softOp P ops S j K (a.put oi.dst v)) :
  softOp P ops S j (fun a' => YieldsC P ops S oi v a' ∧ K (a'.put oi.dst v)) a := by
 obtain ⟨h1, h2, h3⟩ := Oper.apart_spec hap
 unfold softOp at *
 simp only [hj] at *
 obtain ⟨u, hyj, hk⟩ := h
 refine ⟨u, hyj.of_same (execOp_put oj hsj a oi.dst v h1).symm (wanted_put oj a oi.dst v h1).symm, hy.of_same (execOp_put oi hsi a oj.dst u h3) (wanted_put oi a oj.dst u h3), ?_⟩
 rw [← Act.put_comm a v u h2]
 exact hk
def wpAnyC (P : Program) (md : Region.Mode) (ops : Array Oper) (S : World → Prop) (L : Array Bool → Act → Prop) : Nat → Array Bool → Act → Prop
 | 0, listed, a => L listed a
 | f + 1, listed, a => Region.ready md ops listed ≠ [] ∧ ∀ i ∈ Region.ready md ops listed, softOp P ops S i (wpAnyC P md ops S L f (listed.setIfInBounds i true)) a
theorem wpAny_of_C {g : Nat} {L : Array Bool → Act → Prop} {Q' : Exit → Act → World → Prop} (hL : ∀ listed a w, S w → L listed a → wpAny P md ops Q' g listed a w) :
  ∀ (f : Nat) (listed : Array Bool) (a : Act) (w : World), S w → wpAnyC P md ops S L f listed a → wpAny P md ops Q' (f + g) listed a w
 | 0, listed, a, w, hS, h => by rw [Nat.zero_add]; exact hL _ _ _ hS h
 | f + 1, listed, a, w, hS, h => by
  rw [show f + 1 + g = (f + g) + 1 by omega]
  exact ⟨fun h0 => absurd h0 h.1, fun i hi => wpOp_of_softOp (fun a' w' hs h' => wpAny_of_C hL f _ a' w' hs h') hS (h.2 i hi)⟩
theorem YieldsC.soft {i : Nat} {o : Oper} {v : Value} {a : Act} (hi : ops[i]? = some o) (hy : YieldsC P ops S o v a) {K : Act → Prop} (h : K (a.put o.dst v)) : softOp P ops S i K a := by
 unfold softOp
 simp only [hi]
 exact ⟨v, hy, h⟩
theorem wpAnyC_first {i : Nat} {oi : Oper} {v : Value} {L : Array Bool → Act → Prop} {head : List Nat} {base : Array Bool} (hi : ops[i]? = some oi) (hsel : ∀ (j : Nat) (o : Oper) cs b, ops[j]? = some o → o.op ≠ .select cs b)
  (hbe : ∀ j, j < ops.size → base.getD j false = true ∨ head.contains j = true ∨ behindB md ops ops.size j i = true)
  (hdone : ∀ listed a, L listed a → ∀ j ∈ Region.ready md ops listed, head.contains j = false) :
  ∀ (f : Nat) (listed : Array Bool) (a : Act), closedL md ops listed → (∀ j, base.getD j false = true → listed.getD j false = true) →
   (∀ j oj, ops[j]? = some oj → j ≠ i → listed.getD j true = false → (∀ e ∈ oj.after, Region.binds md e = true → e.on ≠ i) → oi.apart ops oj = true) →
   i ∈ Region.ready md ops listed → YieldsC P ops S oi v a →
   wpAnyC P md ops S L f (listed.setIfInBounds i true) (a.put oi.dst v) → wpAnyC P md ops S L (f + 1) listed a := by
 intro f
 induction f with
 | zero =>
  intro listed a hcl hmo _ hr hy H
  have hiun := getD_both (mem_ready.1 hr).1
  refine ⟨fun h => (by rw [h] at hr; cases hr), fun j hj => ?_⟩
  by_cases hji : j = i
  ·
   subst hji; exact hy.soft hi H
  ·
   have h1 := hdone _ _ H j (ready_mono hj hji)
   rcases hbe j (ready_lt hj) with h2 | h2 | h2
   ·
    have := getD_both (mem_ready.1 hj).1
    rw [hmo j h2] at this
    cases this
   ·
    rw [h1] at h2; cases h2
   ·
    have := behind_ready hcl h2 hj
    rw [hiun] at this
    cases this
 | succ f ih =>
  intro listed a hcl hmo hfree hr hy H
  have hiun := getD_both (mem_ready.1 hr).1
  refine ⟨fun h => (by rw [h] at hr; cases hr), fun j hj => ?_⟩
  by_cases hji : j = i
  ·
   subst hji; exact hy.soft hi H
  ·
   have h1 := H.2 j (ready_mono hj hji)
   obtain ⟨hjun, oj, hoj, hall⟩ := mem_ready.1 hj
   have hnot : ∀ e ∈ oj.after, Region.binds md e = true → e.on ≠ i := fun e he hb heq => by
    have h1 := hall e he hb
    rw [heq, hiun] at h1
    cases h1
   have h2 := softOp_put hoj (hfree j oj hoj hji hjun hnot) (fun cs b => hsel i oi cs b hi) (fun cs b => hsel j oj cs b hoj) hy h1
   have hfree' : ∀ k ok, ops[k]? = some ok → k ≠ i → (listed.setIfInBounds j true).getD k true = false →
     (∀ e ∈ ok.after, Region.binds md e = true → e.on ≠ i) → oi.apart ops ok = true := fun k ok hk hki hun hno => by
    refine hfree k ok hk hki ?_ hno
    by_cases hjk : j = k
    ·
     subst hjk; exact hjun
    ·
     rw [getD_set_ne true hjk] at hun; exact hun
   refine softOp_mono (fun a' h3 => ih (listed.setIfInBounds j true) a' (closedL_set hcl hj) (fun k hk => getD_set_true (hmo k hk)) hfree' (ready_mono hr (Ne.symm hji)) h3.1 ?_) h2
   rw [Array.setIfInBounds_comm _ _ hji]
   exact h3.2
def wpHead (P : Program) (ops : Array Oper) (S : World → Prop) (Q : Act → Prop) : List Oper → Act → Prop
 | [], a => Q a
 | o :: rest, a => ∃ v, YieldsC P ops S o v a ∧ wpHead P ops S Q rest (a.put o.dst v)
theorem wpHead_nil {Q : Act → Prop} {a : Act} (h : Q a) : wpHead P ops S Q [] a := h
theorem wpHead_val {Q : Act → Prop} {a : Act} {o : Oper} {rest : List Oper} (v : Value) (h : Region.wanted o (yielded ops a.tmps) = true) (hv : ∀ w, S w → (execOp a.eval o).run P w = .ok (.value v) w)
 (hk : wpHead P ops S Q rest (a.put o.dst v)) : wpHead P ops S Q (o :: rest) a := ⟨v, .inl ⟨h, fun w hw => .inl (hv w hw)⟩, hk⟩
theorem wpHead_call {Q : Act → Prop} {a : Act} {o : Oper} {rest : List Oper} (v : Value) (f : FuncId) (args : Array Value) (h : Region.wanted o (yielded ops a.tmps) = true) (hv : ∀ w, (execOp a.eval o).run P w = .ok (.enter f args) w)
 (hc : ∀ w, S w → Calls P f args w (fun e w'' => e = .returned v ∧ S w''))
 (hk : wpHead P ops S Q rest (a.put o.dst v)) : wpHead P ops S Q (o :: rest) a := ⟨v, .inl ⟨h, fun w hw => .inr ⟨f, args, hv w, hc w hw⟩⟩, hk⟩
theorem wpHead_skip {Q : Act → Prop} {a : Act} {o : Oper} {rest : List Oper} (h : Region.wanted o (yielded ops a.tmps) = false)
 (hk : wpHead P ops S Q rest (a.put o.dst undef)) : wpHead P ops S Q (o :: rest) a := ⟨undef, .inr ⟨h, rfl⟩, hk⟩
def allBehind (md : Region.Mode) (ops : Array Oper) (listed : Array Bool) (h : List Nat) : Bool :=
 h.all fun i => (List.range ops.size).all fun j => listed.getD j false || h.contains j || behindB md ops ops.size j i
def stageHead (md : Region.Mode) (ops : Array Oper) (k : Array Bool → Bool) : List Nat → Array Bool → Bool
 | [], listed => k listed
 | i :: r, listed => (Region.ready md ops listed).contains i && Region.free md ops listed i && stageHead md ops k r (listed.setIfInBounds i true)
def stageTail (md : Region.Mode) (ops : Array Oper) (k : Array Bool → Bool) : List Nat → Array Bool → Bool
 | [], listed => k listed
 | t :: r, listed => decide (Region.ready md ops listed = [t]) && stageTail md ops k r (listed.setIfInBounds t true)
def planOK (md : Region.Mode) (ops : Array Oper) : List (List Nat × List Nat) → Array Bool → Bool
 | [], listed => (Region.ready md ops listed).isEmpty
 | (h, t) :: r, listed => allBehind md ops listed h && stageHead md ops (fun l' => ((Region.ready md ops l').all fun j => !h.contains j) && stageTail md ops (planOK md ops r) t l') h listed
def planLen : List (List Nat × List Nat) → Nat
 | [] => 0
 | (h, t) :: r => h.length + (t.length + planLen r)
def EndK (Q : Exit → Act → World → Prop) (K : Act → World → Prop) : Exit → Act → World → Prop
 | .normal, a, w => K a w
 | e, a, w => Q e a w
def wpPlan (P : Program) (ops : Array Oper) (Q : Exit → Act → World → Prop) : List (List Nat × List Nat) → Act → World → Prop
 | [], a, w => Q .normal a w
 | (h, t) :: r, a, w => ∃ S : World → Prop, S w ∧ wpHead P ops S (fun a' => ∀ w', S w' → wpList P ops (EndK Q (wpPlan P ops Q r)) (pickOps ops t) a' w') (pickOps ops h) a
theorem wpOp_endK {Q : Exit → Act → World → Prop} {K0 K K' : Act → World → Prop} (hK : ∀ a w, K a w → K' a w) {i : Nat} {a : Act} {w : World} (h : wpOp P ops (EndK Q K0) i K a w) : wpOp P ops Q i K' a w := by
 have hL : LetsOut (EndK Q K0) → LetsOut Q := fun ⟨a, w, h⟩ => ⟨a, w, h⟩
 unfold wpOp at *
 cases ho : ops[i]? with
 | none => simp only [ho] at h ⊢; exact hK _ _ h
 | some o =>
  simp only [ho] at h ⊢
  split
  ·
   rename_i hw
   simp only [hw, if_true] at h
   refine h.imp (fun h1 => ?_) (fun h1 => ⟨h1.1, hL h1.2⟩)
   unfold Oper.wp at *
   generalize (execOp a.eval o).run P w = r at h1
   cases r with
   | ok x w' =>
    cases x <;> simp only [Oper.upon] at h1 ⊢
    case value => exact hK _ _ h1
    case skip => exact hK _ _ h1
    case defer => exact hK _ _ h1
    case enter f args =>
     refine h1.mono fun e w'' he => ?_
     cases e with
     | returned v => exact hK _ _ he
     | panicked c => exact he
     | outgrown => exact hL he
    case row => exact h1.mono fun v w'' he => hK _ _ he
   | halt x w' => cases x <;> simp only [Oper.upon] at h1 ⊢ <;> exact h1
  ·
   rename_i hw
   simp only [hw] at h
   exact hK _ _ h
theorem wpAny_stageTail {Q : Exit → Act → World → Prop} {K : Act → World → Prop} {k : Array Bool → Bool} {n : Nat} (hk : ∀ listed a w, closedL md ops listed → k listed = true → K a w → wpAny P md ops Q n listed a w) : ∀ (t : List Nat) (listed : Array Bool) (a : Act) (w : World), closedL md ops listed →
  stageTail md ops k t listed = true → wpList P ops (EndK Q K) (pickOps ops t) a w → wpAny P md ops Q (t.length + n) listed a w
 | [], listed, a, w, hcl, hB, h => by rw [show ([] : List Nat).length + n = n by simp]; exact hk listed a w hcl hB h
 | i :: r, listed, a, w, hcl, hB, h => by
  simp only [stageTail, Bool.and_eq_true, decide_eq_true_eq] at hB
  have hrdy : i ∈ Region.ready md ops listed := by rw [hB.1]; simp
  have hlt := ready_lt hrdy
  have hi : ops[i]? = some ops[i] := Array.getElem?_eq_getElem hlt
  rw [pick_one hi r] at h
  rw [show (i :: r).length + n = (r.length + n) + 1 by simp; omega]
  refine ⟨fun h1 => (by rw [hB.1] at h1; cases h1), fun j hj => ?_⟩
  rw [hB.1] at hj
  have hij : j = i := by simpa using hj
  subst hij
  have hw : wpOp P ops (EndK Q K) j (wpList P ops (EndK Q K) (pickOps ops r)) a w := by unfold wpOp; simp only [hi]; exact h
  exact wpOp_endK (fun a' w' h' => wpAny_stageTail hk r _ a' w' (closedL_set hcl hrdy) hB.2 h') hw
theorem wpAnyC_stage {head : List Nat} {base : Array Bool} {G : Act → Prop} {k : Array Bool → Bool} (hsel : Region.noSelect ops = true) (hk : ∀ l', k l' = true → ∀ j ∈ Region.ready md ops l', head.contains j = false)
  (hbe : ∀ i ∈ head, ∀ j, j < ops.size → base.getD j false = true ∨ head.contains j = true ∨ behindB md ops ops.size j i = true) :
  ∀ (r : List Nat) (listed : Array Bool) (a : Act), (∀ i ∈ r, i ∈ head) → closedL md ops listed → (∀ j, base.getD j false = true → listed.getD j false = true) → stageHead md ops k r listed = true →
   wpHead P ops S G (pickOps ops r) a → wpAnyC P md ops S (fun l' a' => closedL md ops l' ∧ k l' = true ∧ G a') r.length listed a
 | [], listed, a, _, hcl, _, hB, h => ⟨hcl, hB, h⟩
 | i :: r, listed, a, hr, hcl, hmo, hB, h => by
  simp only [stageHead, Bool.and_eq_true] at hB
  obtain ⟨⟨hrdy, hfree⟩, hB'⟩ := hB
  have hrdy' : i ∈ Region.ready md ops listed := by simpa using hrdy
  have hlt := ready_lt hrdy'
  have hi : ops[i]? = some ops[i] := Array.getElem?_eq_getElem hlt
  rw [pick_one hi r] at h
  obtain ⟨v, hy, hK⟩ := h
  refine wpAnyC_first (head := head) (base := base) hi (Region.noSelect_spec hsel) (hbe i (hr i (by simp))) (fun l' a' hL j hj => hk l' hL.2.1 j hj) _ listed a hcl hmo (Region.free_spec hi hfree) hrdy' hy ?_
  exact wpAnyC_stage hsel hk hbe r _ _ (fun x hx => hr x (by simp [hx])) (closedL_set hcl hrdy') (fun j hj => getD_set_true (hmo j hj)) hB' hK
theorem wpAny_plan {Q : Exit → Act → World → Prop} (hsel : Region.noSelect ops = true) : ∀ (p : List (List Nat × List Nat)) (listed : Array Bool) (a : Act) (w : World), closedL md ops listed → planOK md ops p listed = true → wpPlan P ops Q p a w → wpAny P md ops Q (planLen p) listed a w
 | [], listed, a, w, _, hB, h => ⟨by simpa [planOK] using hB, h⟩
 | (hd, t) :: r, listed, a, w, hcl, hB, h => by
  simp only [planOK, allBehind, Bool.and_eq_true, List.all_eq_true, List.mem_range, Bool.or_eq_true] at hB
  obtain ⟨hbe, hst⟩ := hB
  obtain ⟨S, hS, hh⟩ := h
  have key := wpAnyC_stage (P := P) (S := S) (base := listed) hsel (fun l' hl j hj => by
   simp only [Bool.and_eq_true, List.all_eq_true, Bool.not_eq_true'] at hl
   exact hl.1 j hj) (fun i hi j hj => by
    rcases hbe i hi j hj with (h1 | h1) | h1
    ·
     exact .inl h1
    ·
     exact .inr (.inl h1)
    ·
     exact .inr (.inr h1)) hd listed a (fun _ h => h) hcl (fun _ h => h) hst hh
  refine wpAny_of_C (fun l' a' w' hS' hL => ?_) _ _ _ _ hS key
  obtain ⟨hcl', hk', hG⟩ := hL
  simp only [Bool.and_eq_true] at hk'
  exact wpAny_stageTail (fun l2 a2 w2 hcl2 hk2 hK2 => wpAny_plan hsel r l2 a2 w2 hcl2 hk2 hK2) t l' a' w' hcl' hk'.2 (hG w' hS')
theorem wp_region_plan {id : Nat} {l : List Oper} {Q : Exit → Act → World → Prop} {a : Act} {w : World} (p : List (List Nat × List Nat)) (hm : P.follows .mixedOrders = true)
  (hB : (Region.noSelect l.toArray && planOK .any l.toArray p (Array.replicate l.toArray.size false)) = true) (hlen : planLen p = l.length)
  (h : wpPlan P l.toArray Q p a w.drew) : (Code.region id l.toArray true).wp P Q a w := by
 refine wp_region_any hm ?_
 simp only [Bool.and_eq_true] at hB
 have key := wpAny_plan (P := P) (md := .any) (ops := l.toArray) (Q := Q) hB.1 p _ a { w with drawn := w.drawn + 1 } (fun j oj _ hl => by rw [getD_replicate_false] at hl; cases hl) hB.2 h
 rw [hlen] at key
 simpa using key
theorem EndK_self (Q : Exit → Act → World → Prop) : EndK Q (fun a w => Q .normal a w) = Q := by
 funext e a w
 cases e <;> rfl
theorem wp_region_soft {id : Nat} {l : List Oper} {Q : Exit → Act → World → Prop} {a : Act} {w : World} (S : World → Prop) (head tail : List Nat) (hm : P.follows .mixedOrders = true)
  (hB : (Region.noSelect l.toArray && planOK .any l.toArray [(head, tail)] (Array.replicate l.toArray.size false)) = true) (hlen : planLen [(head, tail)] = l.length) (hS : S w.drew)
  (h : wpHead P l.toArray S (fun a' => ∀ w', S w' → wpList P l.toArray Q (pickOps l.toArray tail) a' w') (pickOps l.toArray head) a) : (Code.region id l.toArray true).wp P Q a w := by
 refine wp_region_plan [(head, tail)] hm hB hlen ⟨S, hS, ?_⟩
 have e : EndK Q (wpPlan P l.toArray Q []) = Q := EndK_self Q
 rw [e]
 exact h
end
section
variable {P : Program} {md : Region.Mode} {ops : Array Oper} {Q : Exit → Act → World → Prop} {S : World → Prop}
end
end Go.Proofs.Ytbmbfifempkhgaa

/- Small makers of lists: clone, ports, same, within. -/
namespace Go.Proofs.Ytbmbfifempkhgaa
open Go.RowKit
theorem info_int : (Try.prog.info? 3).map (fun i => (i.zero, i.size, i.bytes)) = some (some (.int .i64 0), 1, 8) := by kernel_rfl
theorem info_ints : (Try.prog.info? 52).map (fun i => (i.zero, i.size, i.bytes)) = some (some (.slice none 0 0), 1, 24) := by kernel_rfl
theorem ivs_one (zs : List Int) : ∀ u ∈ zs.map (Value.int .i64), u.oneCell' = true := ints_oneCell .i64 zs
theorem below_mods {w w' : World} (h : Mods (fun _ => False) w w') : Below w.heap.size w w' := h.below (Nat.le_refl _) (fun _ _ h => h)
def FreshCopy (w : World) (l : List Int) (e : Ending) (w' : World) : Prop :=
 ∃ g cap, e = .returned (.slice (some ⟨g, 0, none⟩) l.length cap) ∧ w'.ownsRow w.heap.size 3 1 (.slice (some ⟨g, 0, none⟩) l.length cap) l.length (ivs l) ∧ Below w.heap.size w w'
set_option maxHeartbeats 400000 in
theorem ports_any {o : Col} {c : Nat} (w : World) (ao : Option Addr) (n cap : Nat) (l : List Int) (h : Ints w o c (.slice ao n cap) l) (hn : l.length ≤ 17600000000000) : Calls Try.prog 64 #[.slice ao n cap] w (FreshCopy w l) := by
 obtain ⟨i0, hi, hz0, hz1, hz2⟩ := info_parts info_int
 obtain ⟨hnone, hnews⟩ := h.news
 obtain rfl := h.len
 have HN := Lib.hid hn
 have Hnone := Lib.hid hnone
 have Hnews := Lib.hid hnews
 clear hn hnone hnews h
 go_enter Try.func64, Try.ntmps64
 go_wp2_with (at_builtin; refine stop_here ?_)
 refine go_on ?_
 have hown0 := World.ownsRow_made (e := 3) (size := 1) (base := w.heap.size) w #[] 0 (Nat.le_refl _) (Nat.zero_le _) rfl
 refine wpList_app rfl _ _ 52 rfl w.heap.size 3 i0 _ 1 8 Try.underlying52 hi hz0 hz1 hz2 rfl (.slice (some ⟨w.heap.size, 0, none⟩) 0 0) 0 [] rfl hown0 ao l.length cap (ivs l) rfl (by simp) Hnone.out (fun ad had j u hu => ca (Hnews.out ad had j u hu)) (ivs_one l) (by have := HN.out; unfold maxLen; omega) (grow_ok (by have := HN.out; omega)) (by simp) ?_
 intro v' w2 g1 g20 g3 g4
 have g2 : (w.alloc (.cells #[] 3)).grownBy w2 (Value.slice (some ⟨w.heap.size, 0, none⟩) 0 0).ownBlock := g20
 have hb : Below w.heap.size w w2 := (((Mods.refl (fun _ => False) w).alloc (.cells #[] 3)).grown g2 (fun k hk hlt => by have := Option.some.inj hk; simp at this; omega)).below (Nat.le_refl _) (fun _ _ h => h)
 simp only [Nat.zero_add, List.nil_append] at g1
 have hne : v' ≠ .slice none 0 0 := fun e => by have := (g3.1 e).1; cases this
 obtain ⟨g, cp, rfl⟩ : ∃ g cp, v' = .slice (some ⟨g, 0, none⟩) l.length cp := by
  rcases g1.2 with ⟨e, _⟩ | ⟨g, cp, cur, e, _⟩
  ·
   exact absurd e hne
  ·
   exact ⟨g, cp, e⟩
 clear g20 g2 g3 g4 hown0 hne
 go_wp2
 go_ret
 exact ⟨g, cp, rfl, g1, hb⟩
theorem within_any (w : World) (n m : Int) : Calls Try.prog 63 #[.int .i64 n, .int .i64 m] w fun e w' => e = .returned (.bool (decide (1 ≤ n ∧ n ≤ m))) ∧ w = w' := by
 by_cases h1 : 1 ≤ n
 ·
  by_cases h2 : n ≤ m
  ·
   have hd : decide (1 ≤ n ∧ n ≤ m) = true := by simp [h1, h2]
   rw [hd]
   clear hd
   go_enter Try.func63, Try.ntmps63
   go_wp2
   go_ret
   exact ⟨rfl, rfl⟩
  ·
   have hd : decide (1 ≤ n ∧ n ≤ m) = false := by simp [h2]
   rw [hd]
   clear hd
   go_enter Try.func63, Try.ntmps63
   go_wp2
   go_ret
   exact ⟨rfl, rfl⟩
 ·
  have hd : decide (1 ≤ n ∧ n ≤ m) = false := by simp [h1]
  rw [hd]
  clear hd
  go_enter Try.func63, Try.ntmps63
  go_wp2
  go_ret
  exact ⟨rfl, rfl⟩
theorem ivs_set_rep (n k : Nat) (r : Int) (h : k < n) : (ivs (List.replicate k r ++ List.replicate (n - k) 0)).set k (iv r) = ivs (List.replicate (k + 1) r ++ List.replicate (n - (k + 1)) 0) := by
 rw [← List.map_set, List.set_append_right _ _ (by simp), List.replicate_succ', List.append_assoc]
 congr 1
 simp only [List.length_replicate, Nat.sub_self]
 obtain ⟨m, hm⟩ : ∃ m, n - k = m + 1 := ⟨n - k - 1, by omega⟩
 rw [hm, List.replicate_succ, show n - (k + 1) = m by omega]
 rfl
theorem made_ints (n : Nat) : (madeCells (Value.cells (.int .i64 0)) (n * 1)).toList = ivs (List.replicate n 0) := by
 rw [Nat.mul_one]
 simp [madeCells, Value.cells, ivs, Nat.mod_one, List.map_const']
set_option maxHeartbeats 800000 in
theorem same_any (w : World) (n : Nat) (r : Int) (hn : n ≤ 1000000) : Calls Try.prog 65 #[.int .i64 n, .int .i64 r] w (FreshCopy w (List.replicate n r)) := by
 obtain ⟨i0, hi, hz0, hz1, hz2⟩ := info_parts info_int
 obtain ⟨w1, hr, hown, hg⟩ := run_make_full (P := Try.prog) w w.heap.size 52 3 i0 _ 1 Try.underlying52 hi hz0 hz1 .i64 .i64 n (by rw [hz2]; omega) (by unfold maxLen; omega) (Nat.le_refl _)
 have hb1 : Below w.heap.size w w1 := ((Mods.refl (fun _ => False) w).grown hg (fun k hk _ => by cases hk)).below (Nat.le_refl _) (fun _ _ h => h)
 rw [made_ints] at hown
 have hnn : (n : Int) ≤ 1000000 := by omega
 go_enter Try.func65, Try.ntmps65
 go_wp2_with fail
 clear hr hg
 go_loopw [11] (fun i wr => ∃ k : Nat, k ≤ n ∧ i = .int .i64 k ∧ wr.ownsRow w.heap.size 3 1 (.slice (some ⟨w.heap.size, 0, none⟩) n n) n (ivs (List.replicate k r ++ List.replicate (n - k) 0)) ∧ Below w.heap.size w wr) (fun i _ => n - (intOf i).toNat)
 case atStart => exact ⟨0, Nat.zero_le _, rfl, by simpa using hown, hb1⟩
 case round =>
  clear hown hb1
  obtain ⟨k, hk, rfl, ho, hb⟩ := hrel
  by_cases hlt : k < n
  ·
   obtain ⟨_, _, g', _, e, hc, hf, _⟩ := owns_cell ho (by simp; omega)
   cases e
   have hc' := hc k _ (by rw [List.getElem?_eq_getElem (by simp; omega)])
   have hf' := hf k
   have hlti : (k : Int) < n := by omega
   obtain ⟨ho2, hg2⟩ := ho.stored k (iv r)
   rw [ivs_set_rep n k r hlt] at ho2
   have hb2 := hb.trans (((Mods.refl (fun j => j = w.heap.size) wr).grown hg2 (fun j hj _ => (Option.some.inj hj).symm)).below (B := w.heap.size) (by have := hb.size; omega) (fun j hj e => by omega))
   clear ho hb hg2 hc hf
   go_wp2
   go_roundw
   case rel => exact ⟨k + 1, by omega, by go_num, ho2, hb2⟩
   case measure => simp [intOf]; omega
  ·
   obtain rfl : k = n := by omega
   go_wp2
   go_ret
   refine ⟨w.heap.size, k, ?_, ?_, hb⟩
   ·
    rw [List.length_replicate]; rfl
   ·
    rw [List.length_replicate]; simpa using ho
end Go.Proofs.Ytbmbfifempkhgaa

/- Lists of lists: read (LL), or owned row by row (Outs). No function in sight. -/
namespace Go.Proofs.Ytbmbfifempkhgaa
open Go.RowKit
abbrev Has (w : World) (v : Value) (vs : List Value) : Prop := Vals w (fun _ => 0) 0 v vs
section
variable {o o' o1 o2 : Col} {C D : Nat → Prop} {w w' w1 w2 : World} {c d : Nat}
theorem Vals.has {v : Value} {vs : List Value} (h : Vals w o c v vs) : Has w v vs := by
 rcases h with h | ⟨hp, b, off, cap, rfl, hl, hb, _, hcl⟩
 ·
  exact .inl h
 ·
  exact .inr ⟨hp, b, off, cap, rfl, hl, hb, rfl, hcl⟩
theorem Vals.below {v : Value} {vs : List Value} (h : Has w v vs) (hb : Below w.heap.size w w') : Has w' v vs := h.turn (o' := fun _ => 0) (C := fun _ => False) ⟨Mods.of_below hb _, fun _ _ => rfl⟩ (fun h => h)
def LL (w : World) (v : Value) (xss : List (List Int)) : Prop :=
 ∃ vs, vs.length = xss.length ∧ Has w v vs ∧ ∀ k, k < xss.length → Has w (vs[k]?.getD undef) (ivs (xss[k]?.getD []))
theorem LL.below {v : Value} {xss : List (List Int)} (h : LL w v xss) (hb : Below w.heap.size w w') : LL w' v xss := by
 obtain ⟨vs, h1, h2, h3⟩ := h
 exact ⟨vs, h1, h2.below hb, fun k hk => (h3 k hk).below hb⟩
theorem LL.slice {v : Value} {xss : List (List Int)} (h : LL w v xss) : ∃ ao cap, v = .slice ao xss.length cap := by
 obtain ⟨vs, h1, h2, _⟩ := h
 rw [← h1]
 exact h2.slice
theorem LL.len {ao : Option Addr} {n cap : Nat} {xss : List (List Int)} (h : LL w (.slice ao n cap) xss) : n = xss.length := by
 obtain ⟨ao', cap', e⟩ := h.slice
 cases e; rfl
theorem LL.at {ao : Option Addr} {n cap : Nat} {xss : List (List Int)} (h : LL w (.slice ao n cap) xss) (hp : 0 < xss.length) : ∃ b off, ao = some ⟨b, off, none⟩ ∧ n ≤ cap ∧
  ∀ k, k < xss.length → ∃ a0 c0, w.cell? ⟨b, off + k, none⟩ = some (.slice a0 (xss[k]?.getD []).length c0) ∧ Has w (.slice a0 (xss[k]?.getD []).length c0) (ivs (xss[k]?.getD [])) := by
 obtain ⟨vs, h1, h2, h3⟩ := h
 obtain ⟨b, off, e, _, hc, _, _, hcl⟩ := h2.at (by omega)
 refine ⟨b, off, e, hc, fun k hk => ?_⟩
 have hr := h3 k hk
 have hk' := hcl k (by omega)
 obtain ⟨a0, c0, e0⟩ := hr.slice
 rw [ivs_len] at e0
 rw [e0] at hr hk'
 exact ⟨a0, c0, hk', hr⟩
def Outs (w : World) (o : Col) (c : Nat) (ov : Value) (xss : List (List Int)) : Prop :=
 ∃ vs, vs.length = xss.length ∧ Own w o c 52 1 ov vs.length vs ∧ (∀ k, k < xss.length → Own w o c 3 1 (vs[k]?.getD undef) (xss[k]?.getD []).length (ivs (xss[k]?.getD []))) ∧
  (∀ i j B, i < j → j < xss.length → (vs[i]?.getD undef).ownBlock = some B → (vs[j]?.getD undef).ownBlock ≠ some B) ∧ ∀ i B, i < xss.length → (vs[i]?.getD undef).ownBlock = some B → ov.ownBlock ≠ some B
theorem Outs.turn {ov : Value} {xss : List (List Int)} (h : Outs w o c ov xss) (T : Turn o o' C w w') (hc : ¬ C c) : Outs w' o' c ov xss := by
 obtain ⟨vs, h1, h2, h3, h4, h5⟩ := h
 exact ⟨vs, h1, h2.turn T hc, fun k hk => (h3 k hk).turn T hc, h4, h5⟩
theorem Outs.recol {ov : Value} {xss : List (List Int)} (h : Outs w o c ov xss) (ho : ∀ k, k < w.heap.size → o k = c → o' k = d) : Outs w o' d ov xss := by
 obtain ⟨vs, h1, h2, h3, h4, h5⟩ := h
 exact ⟨vs, h1, ⟨h2.1, fun k hk => ho k (h2.1.lt k hk).2 (h2.2 k hk)⟩, fun k hk => ⟨(h3 k hk).1, fun j hj => ho j ((h3 k hk).1.lt j hj).2 ((h3 k hk).2 j hj)⟩, h4, h5⟩
theorem Outs.nil (w : World) (o : Col) (c : Nat) : Outs w o c (.slice none 0 0) [] := ⟨[], rfl, Own.nil _ _ _ _ _, fun k hk => by simp at hk, fun i j B _ hj => by simp at hj, fun i B hi => by simp at hi⟩
theorem Outs.set {g n cap i : Nat} {xss : List (List Int)} {v' : Value} {l' : List Int} {F : Nat → Prop} {vs : List Value} (h1 : vs.length = xss.length) (h2 : Own w o c 52 1 (.slice (some ⟨g, 0, none⟩) n cap) vs.length vs)
  (h3 : ∀ k, k < xss.length → Own w o c 3 1 (vs[k]?.getD undef) (xss[k]?.getD []).length (ivs (xss[k]?.getD []))) (h4 : ∀ i j B, i < j → j < xss.length → (vs[i]?.getD undef).ownBlock = some B → (vs[j]?.getD undef).ownBlock ≠ some B)
  (h5 : ∀ i B, i < xss.length → (vs[i]?.getD undef).ownBlock = some B → g ≠ B) (hi : i < xss.length) (hm : Mods F w w1) (hF : ∀ k, k < w.heap.size → F k → (vs[i]?.getD undef).ownBlock = some k)
  (hv : Own w1 o c 3 1 v' l'.length (ivs l')) (hb : v'.ownBlock = (vs[i]?.getD undef).ownBlock ∨ ∀ k, v'.ownBlock = some k → w.heap.size ≤ k) :
  Outs (w1.setCell ⟨g, i, none⟩ v') o c (.slice (some ⟨g, 0, none⟩) n cap) (xss.set i l') := by
 have hgw : g < w.heap.size := (h2.1.lt g rfl).2
 have hg1 : g < w1.heap.size := Nat.lt_of_lt_of_le hgw hm.size
 have new : ∀ k, k < w.heap.size → (vs[i]?.getD undef).ownBlock ≠ some k → v'.ownBlock ≠ some k := fun k hk hn e => by
  rcases hb with hb | hb
  ·
   exact hn (hb ▸ e)
  ·
   have := hb k e; omega
 have hgn : v'.ownBlock ≠ some g := new g hgw (fun e => h5 i g hi e rfl)
 have hown1 : w1.ownsRow 0 52 1 (.slice (some ⟨g, 0, none⟩) n cap) vs.length vs := owns_kept h2.1 hm (fun k hk f => h5 i k hi (hF k (by have e : g = k := Option.some.inj hk; omega) f) (Option.some.inj hk))
 have hn : n = vs.length := by
  rcases h2.1.2 with ⟨e, _⟩ | ⟨_, _, _, e, _⟩
  ·
   cases e
  ·
   cases e; rfl
 subst hn
 have hst := (hown1.stored i v').1
 refine ⟨vs.set i v', by simp [h1], ⟨by rw [List.length_set]; exact hst, h2.2⟩, fun k hk => ?_, fun a b B hab hb' hB => ?_, fun a B ha hB => ?_⟩
 ·
  rw [List.length_set] at hk
  by_cases hki : k = i
  ·
   subst hki
   have e1 : (vs.set k v')[k]?.getD undef = v' := by simp [show k < vs.length by omega]
   have e2 : (xss.set k l')[k]?.getD [] = l' := by simp [hk]
   rw [e1, e2]
   exact ⟨ownsRow_setCell_other hv.1 hgn v', hv.2⟩
  ·
   have e1 : (vs.set i v')[k]?.getD undef = vs[k]?.getD undef := by rw [List.getElem?_set_ne (Ne.symm hki)]
   have e2 : (xss.set i l')[k]?.getD [] = xss[k]?.getD [] := by rw [List.getElem?_set_ne (Ne.symm hki)]
   rw [e1, e2]
   have hk3 := h3 k hk
   refine ⟨ownsRow_setCell_other (owns_kept hk3.1 hm fun B hB f => ?_) (fun e => h5 k g hk e rfl) v', hk3.2⟩
   have := hF B (hk3.1.lt B hB).2 f
   rcases Nat.lt_or_gt_of_ne hki with hlt | hlt
   ·
    exact h4 k i B hlt hi hB this
   ·
    exact h4 i k B hlt hk this hB
 ·
  rw [List.length_set] at hb'
  have olt : ∀ k B, k < xss.length → (vs[k]?.getD undef).ownBlock = some B → B < w.heap.size := fun k B hk hB => ((h3 k hk).1.lt B hB).2
  by_cases hai : a = i
  ·
   subst hai
   rw [show (vs.set a v')[a]?.getD undef = v' by simp [show a < vs.length by omega]] at hB
   rw [List.getElem?_set_ne (by omega)]
   intro e
   have hBl := olt b B hb' e
   exact new B hBl (fun e' => h4 a b B hab hb' e' e) hB
  ·
   rw [List.getElem?_set_ne (Ne.symm hai)] at hB
   by_cases hbi : b = i
   ·
    subst hbi
    rw [show (vs.set b v')[b]?.getD undef = v' by simp [show b < vs.length by omega]]
    exact new B (olt a B (by omega) hB) (h4 a b B hab hb' hB)
   ·
    rw [List.getElem?_set_ne (Ne.symm hbi)]
    exact h4 a b B hab hb' hB
 ·
  rw [List.length_set] at ha
  by_cases hai : a = i
  ·
   subst hai
   rw [show (vs.set a v')[a]?.getD undef = v' by simp [show a < vs.length by omega]] at hB
   intro e
   exact hgn (by rw [hB]; exact e.symm)
  ·
   rw [List.getElem?_set_ne (Ne.symm hai)] at hB
   intro e
   exact h5 a B ha hB (Option.some.inj e)
end
end Go.Proofs.Ytbmbfifempkhgaa

/- Apart: lists of their owner's own share no memory. -/
namespace Go.Proofs.Ytbmbfifempkhgaa
open Go.RowKit
def rowV (i n : Nat) : List Int := (List.range n).map fun (k : Nat) => (i : Int) * 1000003 + k
def apM (i n : Nat) : List Int := (List.range n).map fun (k : Nat) => -(i : Int) * 1000003 - k - 1
theorem rowV_len (i n : Nat) : (rowV i n).length = n := by simp [rowV]
theorem apM_len (i n : Nat) : (apM i n).length = n := by simp [apM]
theorem apM_succ (i k : Nat) : apM i (k + 1) = apM i k ++ [-(i : Int) * 1000003 - k - 1] := by simp [apM, List.range_succ]
theorem rowV_succ (i k : Nat) : rowV i (k + 1) = rowV i k ++ [(i : Int) * 1000003 + k] := by simp [rowV, List.range_succ]
theorem rowV_get (i n k : Nat) (h : k < n) : (rowV i n)[k]? = some ((i : Int) * 1000003 + k) := by simp [rowV, h]
theorem apM_get (i n k : Nat) (h : k < n) : (apM i n)[k]? = some (-(i : Int) * 1000003 - k - 1) := by simp [apM, h]
theorem set_step {zs : List Int} {i k : Nat} (hk : k < zs.length) (h : zs.take k = rowV i k) : (zs.set k ((i : Int) * 1000003 + k)).take (k + 1) = rowV i (k + 1) := by
 rw [rowV_succ, ← h, List.take_succ_eq_append_getElem (by simpa using hk), List.take_set_of_le (Nat.le_refl _)]
 simp
def rowCol (ov : Value) (vs : List Value) : Col := fun k => if ov.ownBlock = some k then 1 else
 match (List.range vs.length).find? (fun i => decide ((vs[i]?.getD undef).ownBlock = some k)) with
 | some i => 10 + i
 | none => 0
theorem rowCol_row {ov : Value} {vs : List Value} {i k : Nat} (hi : i < vs.length) (h : (vs[i]?.getD undef).ownBlock = some k) (hov : ov.ownBlock ≠ some k)
  (hd : ∀ i j B, i < j → j < vs.length → (vs[i]?.getD undef).ownBlock = some B → (vs[j]?.getD undef).ownBlock ≠ some B) : rowCol ov vs k = 10 + i := by
 unfold rowCol
 rw [if_neg hov]
 split
 ·
  rename_i j hj
  have h1 := List.find?_some hj
  have h2 := List.mem_of_find?_eq_some hj
  simp at h1 h2
  have : j = i := by
   rcases Nat.lt_trichotomy i j with hlt | rfl | hlt
   ·
    exact absurd h1 (by simpa using hd i j k hlt h2 h)
   ·
    rfl
   ·
    exact absurd h (hd j i k hlt hi (by simpa using h1))
  omega
 ·
  rename_i hn
  have := List.find?_eq_none.1 hn i (List.mem_range.2 hi)
  simp [h] at this
theorem rowCol_is {ov : Value} {vs : List Value} {k : Nat} (h : 10 ≤ rowCol ov vs k) : ∃ i, i < vs.length ∧ (vs[i]?.getD undef).ownBlock = some k := by
 unfold rowCol at h
 split at h
 ·
  omega
 ·
  split at h
  ·
   rename_i j hj
   have h1 := List.find?_some hj
   have h2 := List.mem_of_find?_eq_some hj
   exact ⟨j, List.mem_range.1 h2, by simpa using h1⟩
  ·
   omega
section
variable {o o' : Col} {w w' : World}
def Read0 (w : World) (o : Col) (c : Nat) (u : Value) (l : List Int) : Prop :=
 ∃ ao cap, u = .slice ao l.length cap ∧ l.length ≤ cap ∧ (0 < l.length → ∃ g, ao = some ⟨g, 0, none⟩ ∧ g < w.heap.size ∧ o g = c ∧ ∀ k, k < l.length → w.cell? ⟨g, k, none⟩ = some (iv (l[k]?.getD 0)))
theorem Read0.turn {C : Nat → Prop} {c : Nat} {u : Value} {l : List Int} (h : Read0 w o c u l) (T : Turn o o' C w w') (hc : ¬ C c) : Read0 w' o' c u l := by
 obtain ⟨ao, cap, h1, h2, h3⟩ := h
 refine ⟨ao, cap, h1, h2, fun hp => ?_⟩
 obtain ⟨g, h4, h5, h6, h7⟩ := h3 hp
 exact ⟨g, h4, Nat.lt_of_lt_of_le h5 T.size, (T.same g h5).trans h6, fun k hk => T.cell (h7 k hk) (by show ¬ C (o g); rw [h6]; exact hc)⟩
theorem Own.cap {c e n : Nat} {sa : Option Addr} {len cap : Nat} {xs : List Value} (h : Own w o c e 1 (.slice sa len cap) n xs) : len = n ∧ n ≤ cap := by
 rcases h.1.2 with ⟨h0, h1⟩ | ⟨g, cap', cur, hv, _, _, hnc, _⟩
 ·
  cases h0; subst h1; simp
 ·
  cases hv; exact ⟨rfl, hnc⟩
theorem Own.read0 {c e n : Nat} {u : Value} {l : List Int} (h : Own w o c e 1 u n (ivs l)) : Read0 w o c u l := by
 obtain ⟨ao, cap, rfl⟩ := h.slice
 have hn := h.len
 rw [ivs_len] at hn
 subst hn
 refine ⟨ao, cap, rfl, h.cap.2, fun hp => ?_⟩
 obtain ⟨_, _, g, _, rfl, hcl, _, hg⟩ := owns_cell h.1 (by simpa using hp)
 exact ⟨g, rfl, hg, h.2 g rfl, fun k hk => hcl k _ (by simp [hk])⟩
theorem Read0.app {c n : Nat} {u v v' : Value} {l : List Int} {xs news : List Value} {e m : Nat} {tmp : Obj} (hr : Read0 w o c u l) (hp : ∀ k, k < l.length → xs[k]? = some (iv (l[k]?.getD 0))) (hx : xs.length = n)
  (k1 : w'.ownsRow 0 e 1 v' m (xs ++ news)) (k2 : (w.alloc tmp).grownBy w' v.ownBlock) (k4 : v'.ownBlock = v.ownBlock ∨ v'.ownBlock = some (w.alloc tmp).heap.size ∧ (w.alloc tmp).grownBy w' none) (ho : ∀ k, k < w.heap.size → o' k = o k) : Read0 w' o' c u l := by
 obtain ⟨ao, cap, h1, h2, h3⟩ := hr
 refine ⟨ao, cap, h1, h2, fun hp0 => ?_⟩
 obtain ⟨g, h4, h5, h6, h7⟩ := h3 hp0
 have hsz : g < (w.alloc tmp).heap.size := by simp; omega
 refine ⟨g, h4, Nat.lt_of_lt_of_le hsz k2.size, (ho g h5).trans h6, fun k hk => ?_⟩
 by_cases hg : v.ownBlock = some g
 ·
  rcases k4 with k4 | ⟨_, k4⟩
  ·
   obtain ⟨s', c', rfl⟩ := owns_slice k1
   have hxk := (List.getElem?_eq_some_iff.1 (hp k hk)).1
   obtain ⟨_, _, g', _, e', hcl, _⟩ := owns_cell k1 (by simp; omega)
   subst e'
   have : g' = g := Option.some.inj (k4.trans hg)
   subst this
   exact hcl k _ (by rw [List.getElem?_append_left hxk]; exact hp k hk)
  ·
   exact (World.cell?_of_block (w := w.alloc tmp) (k4.block g hsz (by simp))).trans (ca (h7 k hk))
 ·
  exact (World.cell?_of_block (w := w.alloc tmp) (k2.block g hsz (fun e => hg e.symm))).trans (ca (h7 k hk))
end
def Ap1 (w : World) (o : Col) (vs : List Value) (ns : List Nat) (i k : Nat) : Prop :=
 ∀ j, j < vs.length → ∃ zs : List Int, zs.length = ns[j]?.getD 0 ∧ (j < i → zs = rowV j (ns[j]?.getD 0)) ∧ (j = i → zs.take k = rowV i k) ∧ Own w o (10 + j) 3 1 (vs[j]?.getD undef) (ns[j]?.getD 0) (ivs zs)
def Lo1 (w : World) (o : Col) (L : Nat) (vs : List Value) (i : Nat) : Prop :=
 ∃ ls : List Value, ls.length = vs.length ∧ (∀ j, j < i → ls[j]? = vs[j]?) ∧ Own w o 2 52 1 (.slice (some ⟨L, 0, none⟩) vs.length vs.length) vs.length ls
def grew (i k j : Nat) : Nat := if j < i then 16 else if j = i then k else 0
def Ap2 (w : World) (o : Col) (L : Nat) (vs : List Value) (ns : List Nat) (i k : Nat) : Prop :=
 (∀ j, j < vs.length → Read0 w o (10 + j) (vs[j]?.getD undef) (rowV j (ns[j]?.getD 0))) ∧
  ∃ ls : List Value, ls.length = vs.length ∧ Own w o 2 52 1 (.slice (some ⟨L, 0, none⟩) vs.length vs.length) vs.length ls ∧
   ∀ j, j < vs.length → Own w o (10 + j) 3 1 (ls[j]?.getD undef) (ns[j]?.getD 0 + grew i k j) (ivs (rowV j (ns[j]?.getD 0) ++ apM j (grew i k j)))
theorem Ap1.step {w : World} {o : Col} {vs : List Value} {ns : List Nat} {i k g n cap : Nat} (h : Ap1 w o vs ns i k) (hi : i < vs.length) (hv : vs[i]?.getD undef = .slice (some ⟨g, 0, none⟩) n cap) (hn : ns[i]?.getD 0 = n) (hk : k < n) :
  Ap1 (w.setCell ⟨g, k, none⟩ (.int .i64 ((i : Int) * 1000003 + k))) o vs ns i (k + 1) ∧ Turn o o (fun x => x = 10 + i) w (w.setCell ⟨g, k, none⟩ (.int .i64 ((i : Int) * 1000003 + k))) := by
 obtain ⟨zs, h1, h2, h3, h4⟩ := h i hi
 have hog : o g = 10 + i := h4.2 g (by rw [hv]; rfl)
 have T : Turn o o (fun x => x = 10 + i) w (w.setCell ⟨g, k, none⟩ (.int .i64 ((i : Int) * 1000003 + k))) :=
  ⟨(Mods.refl (fun k => o k = 10 + i) w).setCell (p := ⟨g, k, none⟩) (fun _ => hog) _, fun _ _ => rfl⟩
 refine ⟨fun j hj => ?_, T⟩
 by_cases e : j = i
 ·
  subst e
  rw [hv, hn] at h4
  obtain ⟨h5, _⟩ := h4.1.stored k (.int .i64 ((j : Int) * 1000003 + k))
  refine ⟨zs.set k ((j : Int) * 1000003 + k), by simpa using h1, fun hlt => absurd hlt (Nat.lt_irrefl _), fun _ => set_step (by omega) (h3 rfl), ?_⟩
  rw [hv, hn]
  refine ⟨by rw [show ivs (zs.set k ((j : Int) * 1000003 + k)) = (ivs zs).set k (.int .i64 ((j : Int) * 1000003 + k)) by simp [List.map_set]]; exact h5, fun b hb => ?_⟩
  have := h4.2 b hb
  exact this
 ·
  obtain ⟨zs, h1, h2, h3, h4⟩ := h j hj
  exact ⟨zs, h1, h2, fun e' => absurd e' e, h4.turn T (by show ¬ 10 + j = 10 + i; omega)⟩
theorem Ap1.next {w : World} {o : Col} {vs : List Value} {ns : List Nat} {i k : Nat} (h : Ap1 w o vs ns i k) (hk : ns[i]?.getD 0 = k) : Ap1 w o vs ns (i + 1) 0 := fun j hj => by
 obtain ⟨zs, h1, h2, h3, h4⟩ := h j hj
 refine ⟨zs, h1, fun hlt => ?_, fun _ => by simp [rowV], h4⟩
 by_cases e : j = i
 ·
  subst e
  have := h3 rfl
  rwa [List.take_of_length_le (by omega), ← hk] at this
 ·
  exact h2 (by omega)
theorem Ap1.turn {w w' : World} {o o' : Col} {C : Nat → Prop} {vs : List Value} {ns : List Nat} {i k : Nat} (h : Ap1 w o vs ns i k) (T : Turn o o' C w w') (hC : ∀ j, ¬ C (10 + j)) : Ap1 w' o' vs ns i k := fun j hj => by
 obtain ⟨zs, h1, h2, h3, h4⟩ := h j hj
 exact ⟨zs, h1, h2, h3, h4.turn T (hC j)⟩
theorem Ap1.done {w : World} {o : Col} {L : Nat} {vs : List Value} {ns : List Nat} (h : Ap1 w o vs ns vs.length 0) (hl : Lo1 w o L vs vs.length) : Ap2 w o L vs ns 0 0 := by
 obtain ⟨ls, h1, h2, h3⟩ := hl
 have hall : ∀ j, j < vs.length → Own w o (10 + j) 3 1 (vs[j]?.getD undef) (ns[j]?.getD 0) (ivs (rowV j (ns[j]?.getD 0))) := fun j hj => by
  obtain ⟨zs, _, h5, _, h6⟩ := h j hj
  rwa [h5 hj] at h6
 refine ⟨fun j hj => (hall j hj).read0, ls, h1, h3, fun j hj => ?_⟩
 rw [h2 j hj]
 simpa [grew, apM] using hall j hj
theorem Lo1.step {w : World} {o : Col} {L i : Nat} {vs : List Value} (h : Lo1 w o L vs i) (hi : i < vs.length) : Lo1 (w.setCell ⟨L, i, none⟩ (vs[i]?.getD undef)) o L vs (i + 1) ∧ Turn o o (fun x => x = 2) w (w.setCell ⟨L, i, none⟩ (vs[i]?.getD undef)) := by
 obtain ⟨ls, h1, h2, h3⟩ := h
 obtain ⟨h4, _⟩ := h3.1.stored i (vs[i]?.getD undef)
 have hL := h3.2 L rfl
 refine ⟨⟨ls.set i (vs[i]?.getD undef), by simpa using h1, fun j hj => ?_, h4, h3.2⟩, ⟨(Mods.refl (fun k => o k = 2) w).setCell (p := ⟨L, i, none⟩) (fun _ => hL) _, fun _ _ => rfl⟩⟩
 by_cases e : j = i
 ·
  subst e
  rw [List.getElem?_set_self (by omega)]
  simp [hi]
 ·
  rw [List.getElem?_set_ne (Ne.symm e)]
  exact h2 j (by omega)
theorem Lo1.turn {w w' : World} {o o' : Col} {C : Nat → Prop} {L i : Nat} {vs : List Value} (h : Lo1 w o L vs i) (T : Turn o o' C w w') (hC : ¬ C 2) : Lo1 w' o' L vs i := by
 obtain ⟨ls, h1, h2, h3⟩ := h
 exact ⟨ls, h1, h2, h3.turn T hC⟩
theorem Ap2.next {w : World} {o : Col} {L : Nat} {vs : List Value} {ns : List Nat} {i : Nat} (h : Ap2 w o L vs ns i 16) : Ap2 w o L vs ns (i + 1) 0 := by
 obtain ⟨h1, ls, h2, h3, h4⟩ := h
 refine ⟨h1, ls, h2, h3, fun j hj => ?_⟩
 have e : grew (i + 1) 0 j = grew i 16 j := by
  rcases Nat.lt_trichotomy j i with h | h | h
  ·
   simp [grew, h, show j < i + 1 by omega]
  ·
   simp [grew, h]
  ·
   simp [grew, show ¬ j < i + 1 by omega, show ¬ j < i by omega, show ¬ j = i by omega]
 rw [e]; exact h4 j hj
theorem Ap2.step {w w2 : World} {o : Col} {L : Nat} {vs ls : List Value} {ns : List Nat} {i k : Nat} {v' : Value} {tmp : Obj} (h1 : ∀ j, j < vs.length → Read0 w o (10 + j) (vs[j]?.getD undef) (rowV j (ns[j]?.getD 0)))
  (h2 : ls.length = vs.length) (h3 : Own w o 2 52 1 (.slice (some ⟨L, 0, none⟩) vs.length vs.length) vs.length ls)
  (h4 : ∀ j, j < vs.length → Own w o (10 + j) 3 1 (ls[j]?.getD undef) (ns[j]?.getD 0 + grew i k j) (ivs (rowV j (ns[j]?.getD 0) ++ apM j (grew i k j)))) (hi : i < vs.length)
  (k1 : w2.ownsRow 0 3 1 v' (ns[i]?.getD 0 + k + 1) (ivs (rowV i (ns[i]?.getD 0) ++ apM i k) ++ [.int .i64 (-(i : Int) * 1000003 - k - 1)])) (k2 : (w.alloc tmp).grownBy w2 (ls[i]?.getD undef).ownBlock)
  (k4 : v'.ownBlock = (ls[i]?.getD undef).ownBlock ∨ v'.ownBlock = some (w.alloc tmp).heap.size ∧ (w.alloc tmp).grownBy w2 none) :
  Own w2 (ext o w.heap.size (10 + i)) 2 52 1 (.slice (some ⟨L, 0, none⟩) vs.length vs.length) vs.length ls ∧ Ap2 (w2.setCell ⟨L, i, none⟩ v') (ext o w.heap.size (10 + i)) L vs ns i (k + 1) ∧
   Turn o (ext o w.heap.size (10 + i)) (fun x => x = 10 + i ∨ x = 2) w (w2.setCell ⟨L, i, none⟩ v') := by
 have hown := h4 i hi
 have hgi : grew i k i = k := by simp [grew]
 rw [hgi] at hown
 have T : Turn o (ext o w.heap.size (10 + i)) (fun x => x = 10 + i) w w2 :=
  Turn.of_mods o (10 + i) (((Mods.refl (fun b => (ls[i]?.getD undef).ownBlock = some b) w).alloc tmp).grown k2 (fun b hb _ => hb)) (fun b _ hb => hown.2 b hb)
 have h3' := h3.turn T (by show ¬ 2 = 10 + i; omega)
 have hL : (ext o w.heap.size (10 + i)) L = 2 := h3'.2 L rfl
 have T2 : Turn (ext o w.heap.size (10 + i)) (ext o w.heap.size (10 + i)) (fun x => x = 2) w2 (w2.setCell ⟨L, i, none⟩ v') :=
  ⟨(Mods.refl (fun k => (ext o w.heap.size (10 + i)) k = 2) w2).setCell (p := ⟨L, i, none⟩) (fun _ => hL) _, fun _ _ => rfl⟩
 obtain ⟨h6, _⟩ := h3'.1.stored i v'
 refine ⟨h3', ⟨fun j hj => ?_, ls.set i v', by simpa using h2, ⟨h6, h3'.2⟩, fun j hj => ?_⟩, (T.mono (fun _ h => .inl h)).trans T2 (fun _ h => .inr h)⟩
 ·
  refine Read0.turn ?_ T2 (by show ¬ 10 + j = 2; omega)
  by_cases e : j = i
  ·
   subst e
   refine (h1 j hj).app (xs := ivs (rowV j (ns[j]?.getD 0) ++ apM j k)) (fun q hq => ?_) rfl k1 k2 k4 (fun _ hk => ext_old hk)
   rw [rowV_len] at hq
   simp [rowV, List.getElem?_append_left, hq]
  ·
   exact (h1 j hj).turn T (by show ¬ 10 + j = 10 + i; omega)
 ·
  refine Own.turn ?_ T2 (by show ¬ 10 + j = 2; omega)
  by_cases e : j = i
  ·
   subst e
   rw [List.getElem?_set_self (by omega)]
   have hg2 : grew j (k + 1) j = k + 1 := by simp [grew]
   rw [hg2, apM_succ, ← List.append_assoc]
   refine ⟨by simpa [Nat.add_assoc] using k1, fun b hb => ?_⟩
   rcases k4 with k4 | ⟨k4, _⟩
   ·
    rw [Option.getD_some, k4] at hb
    exact (ext_old (hown.1.lt b hb).2).trans (hown.2 b hb)
   ·
    rw [Option.getD_some, k4] at hb
    have := Option.some.inj hb
    simp at this
    exact ext_new (by omega)
  ·
   rw [List.getElem?_set_ne (Ne.symm e)]
   have hg2 : grew i (k + 1) j = grew i k j := by simp [grew, e]
   rw [hg2]
   exact (h4 j hj).turn T (by show ¬ 10 + j = 10 + i; omega)
end Go.Proofs.Ytbmbfifempkhgaa

/- Graphs, plans, nests: as plain data, and how they lie in memory. No program in sight. -/
namespace Go.Proofs.Ytbmbfifempkhgaa
open Go.RowKit
structure GActor where
 name : ByteArray
 tag : Int
 params : List Int
structure GEdge where
 src : Int
 sport : Int
 dst : Int
 dport : Int
 start : List Int
structure GPort where
 name : ByteArray
 actor : Int
 port : Int
structure GGraph where
 name : ByteArray
 actors : List GActor
 edges : List GEdge
 ins : List GPort
 outs : List GPort
structure GRegion where
 base : Int
 size : Int
structure GPlan where
 regions : List GRegion
 total : Int
inductive Nest where
 | nil : Nest
 | cons (times node : Int) (body rest : Nest) : Nest
def Nest.items : Nest → List (Int × Int × Nest)
 | .nil => []
 | .cons t n b r => (t, n, b) :: r.items
def Nest.isNil : Nest → Bool
 | .nil => true
 | .cons _ _ _ _ => false
section
variable {w w' : World}
def Recs {α : Type} (w : World) (sz : Nat) (R : World → α → List Value → Prop) (v : Value) (l : List α) : Prop :=
 (l = [] ∧ ∃ ao cap, v = .slice ao 0 cap) ∨
 (0 < l.length ∧ ∃ b off cap, v = .slice (some ⟨b, off, none⟩) l.length cap ∧ l.length ≤ cap ∧ b < w.heap.size ∧
  ∀ k (hk : k < l.length), ∃ cs, cs.length = sz ∧ R w l[k] cs ∧ ∀ i, i < sz → w.cell? ⟨b, off + k * sz + i, none⟩ = some (cs[i]?.getD undef))
def Steady {α : Type} (R : World → α → List Value → Prop) : Prop := ∀ w w' a cs, Below w.heap.size w w' → R w a cs → R w' a cs
theorem Recs.below {α : Type} {sz : Nat} {R : World → α → List Value → Prop} (hR : Steady R) {v : Value} {l : List α} (h : Recs w sz R v l) (hb : Below w.heap.size w w') : Recs w' sz R v l := by
 rcases h with h | ⟨hp, b, off, cap, e, hl, hlt, h⟩
 ·
  exact .inl h
 ·
  refine .inr ⟨hp, b, off, cap, e, hl, Nat.lt_of_lt_of_le hlt hb.size, fun k hk => ?_⟩
  obtain ⟨cs, h1, h2, h3⟩ := h k hk
  exact ⟨cs, h1, hR w w' _ _ hb h2, fun i hi => (hb.cell hlt).trans (h3 i hi)⟩
theorem Recs.slice {α : Type} {sz : Nat} {R : World → α → List Value → Prop} {v : Value} {l : List α} (h : Recs w sz R v l) : ∃ ao cap, v = .slice ao l.length cap := by
 rcases h with ⟨rfl, ao, cap, rfl⟩ | ⟨_, b, off, cap, rfl, _⟩
 ·
  exact ⟨_, _, rfl⟩
 ·
  exact ⟨_, _, rfl⟩
theorem Recs.len {α : Type} {sz : Nat} {R : World → α → List Value → Prop} {ao : Option Addr} {n cap : Nat} {l : List α} (h : Recs w sz R (.slice ao n cap) l) : n = l.length := by
 obtain ⟨ao', cap', e⟩ := h.slice
 cases e; rfl
theorem Recs.at {α : Type} {sz : Nat} {R : World → α → List Value → Prop} {ao : Option Addr} {n cap : Nat} {l : List α} (h : Recs w sz R (.slice ao n cap) l) (hp : 0 < l.length) :
  ∃ b off, ao = some ⟨b, off, none⟩ ∧ l.length ≤ cap ∧ b < w.heap.size ∧ ∀ k (hk : k < l.length), ∃ cs, cs.length = sz ∧ R w l[k] cs ∧ ∀ i, i < sz → w.cell? ⟨b, off + k * sz + i, none⟩ = some (cs[i]?.getD undef) := by
 rcases h with ⟨rfl, _⟩ | ⟨_, b, off, cap', e, hl, hlt, h⟩
 ·
  simp at hp
 ·
  cases e
  exact ⟨b, off, rfl, hl, hlt, h⟩
def ActorR (w : World) (a : GActor) (cs : List Value) : Prop := ∃ x, cs = [.string a.name, .int .u8 a.tag, x] ∧ Has w x (ivs a.params)
def EdgeR (w : World) (e : GEdge) (cs : List Value) : Prop := ∃ x, cs = [.int .i64 e.src, .int .i64 e.sport, .int .i64 e.dst, .int .i64 e.dport, x] ∧ Has w x (ivs e.start)
def PortR (_ : World) (p : GPort) (cs : List Value) : Prop := cs = [.string p.name, .int .i64 p.actor, .int .i64 p.port]
def RegionR (_ : World) (r : GRegion) (cs : List Value) : Prop := cs = [.int .i64 r.base, .int .i64 r.size]
theorem actor_steady : Steady ActorR := fun _ _ _ _ hb ⟨x, h1, h2⟩ => ⟨x, h1, h2.below hb⟩
theorem edge_steady : Steady EdgeR := fun _ _ _ _ hb ⟨x, h1, h2⟩ => ⟨x, h1, h2.below hb⟩
theorem port_steady : Steady PortR := fun _ _ _ _ _ h => h
theorem region_steady : Steady RegionR := fun _ _ _ _ _ h => h
structure HasGraph (w : World) (v : Value) (g : GGraph) : Prop where
 shape : ∃ va ve vi vo, v = .agg #[.string g.name, va, ve, vi, vo] ∧ Recs w 3 ActorR va g.actors ∧ Recs w 5 EdgeR ve g.edges ∧ Recs w 3 PortR vi g.ins ∧ Recs w 3 PortR vo g.outs
theorem HasGraph.below {v : Value} {g : GGraph} (h : HasGraph w v g) (hb : Below w.heap.size w w') : HasGraph w' v g := by
 obtain ⟨va, ve, vi, vo, h0, h1, h2, h3, h4⟩ := h.shape
 exact ⟨va, ve, vi, vo, h0, h1.below actor_steady hb, h2.below edge_steady hb, h3.below port_steady hb, h4.below port_steady hb⟩
def HasPlan (w : World) (v : Value) (p : GPlan) : Prop := ∃ vr, v = .agg #[vr, .int .i64 p.total] ∧ Recs w 2 RegionR vr p.regions
theorem HasPlan.below {v : Value} {p : GPlan} (h : HasPlan w v p) (hb : Below w.heap.size w w') : HasPlan w' v p := by
 obtain ⟨vr, h0, h1⟩ := h
 exact ⟨vr, h0, h1.below region_steady hb⟩
def HasNestD : Nat → World → Value → Nest → Prop
 | 0, _, v, l => l = .nil ∧ ∃ ao cap, v = .slice ao 0 cap
 | d + 1, w, v, l => Recs w 3 (fun w x cs => ∃ y, cs = [.int .i64 x.1, .int .i64 x.2.1, y] ∧ HasNestD d w y x.2.2) v l.items
theorem nestD_below : ∀ (d : Nat) {w w' : World} {v : Value} {l : Nest}, HasNestD d w v l → Below w.heap.size w w' → HasNestD d w' v l
 | 0, _, _, _, _, h, _ => h
 | d + 1, _, _, _, _, h, hb => Recs.below (fun _ _ _ _ hb ⟨y, h1, h2⟩ => ⟨y, h1, nestD_below d h2 hb⟩) h hb
theorem nestD_slice : ∀ (d : Nat) {w : World} {v : Value} {l : Nest}, HasNestD d w v l → ∃ ao cap, v = .slice ao l.items.length cap
 | 0, _, _, _, ⟨h, ao, cap, e⟩ => ⟨ao, cap, by rw [h]; exact e⟩
 | _ + 1, _, _, _, h => Recs.slice h
end
end Go.Proofs.Ytbmbfifempkhgaa

/- Which number the error of a shape has. No program in sight. -/
namespace Go.Proofs.Ytbmbfifempkhgaa
def errP (t : Int) : Int := if 1 ≤ t ∧ t ≤ 11 then 61 else 60
def TagOk (t : Int) : Prop := t = 1 ∨ t = 2 ∨ t = 3 ∨ t = 4 ∨ t = 5 ∨ t = 6 ∨ t = 7 ∨ t = 8 ∨ t = 9 ∨ t = 10 ∨ t = 11
end Go.Proofs.Ytbmbfifempkhgaa

/- Operations, programs as plain data; rows of operations in memory. No function in sight. -/
namespace Go.Proofs.Ytbmbfifempkhgaa
open Go.RowKit
structure GOp where
 kind : Int
 a : Int
 b : Int
def opV (x : GOp) : List Value := [.int .u8 x.kind, .int .i64 x.a, .int .i64 x.b]
def opsV (l : List GOp) : List Value := l.flatMap opV
theorem opsV_cons (x : GOp) (l : List GOp) : opsV (x :: l) = .int .u8 x.kind :: .int .i64 x.a :: .int .i64 x.b :: opsV l := rfl
theorem opsV_len : ∀ l : List GOp, (opsV l).length = l.length * 3
 | [] => rfl
 | x :: l => by rw [opsV_cons]; simp only [List.length_cons, opsV_len l]; omega
theorem opsV_app (l m : List GOp) : opsV (l ++ m) = opsV l ++ opsV m := by simp [opsV]
theorem opsV_get : ∀ (l : List GOp) (k : Nat) (h : k < l.length), (opsV l)[k * 3]? = some (.int .u8 l[k].kind) ∧ (opsV l)[k * 3 + 1]? = some (.int .i64 l[k].a) ∧ (opsV l)[k * 3 + 2]? = some (.int .i64 l[k].b)
 | [], k, h => by simp at h
 | x :: l, 0, _ => ⟨rfl, rfl, rfl⟩
 | x :: l, k + 1, h => by
  have ih := opsV_get l k (by simpa using h)
  rw [opsV_cons, show (k + 1) * 3 = k * 3 + 1 + 1 + 1 by omega]
  exact ⟨ih.1, ih.2.1, ih.2.2⟩
theorem opsV_setB : ∀ (l : List GOp) (k : Nat) (h : k < l.length) (b : Int), (opsV l).set (k * 3 + 2) (.int .i64 b) = opsV (l.set k ⟨l[k].kind, l[k].a, b⟩)
 | [], k, h, _ => by simp at h
 | x :: l, 0, _, b => rfl
 | x :: l, k + 1, h, b => by
  have ih := opsV_setB l k (by simpa using h) b
  rw [opsV_cons, show (k + 1) * 3 + 2 = k * 3 + 2 + 1 + 1 + 1 by omega]
  simp only [List.set_cons_succ, ih, List.getElem_cons_succ, opsV_cons]
theorem opsV_setKA : ∀ (l : List GOp) (k : Nat) (h : k < l.length) (kd a : Int), ((opsV l).set (k * 3) (.int .u8 kd)).set (k * 3 + 1) (.int .i64 a) = opsV (l.set k ⟨kd, a, l[k].b⟩)
 | [], k, h, _, _ => by simp at h
 | x :: l, 0, _, _, _ => rfl
 | x :: l, k + 1, h, kd, a => by
  have ih := opsV_setKA l k (by simpa using h) kd a
  rw [opsV_cons, show (k + 1) * 3 = k * 3 + 1 + 1 + 1 by omega]
  simp only [List.set_cons_succ, List.getElem_cons_succ, opsV_cons, ih]
theorem opsV_one : ∀ (l : List GOp), ∀ u ∈ opsV l, u.oneCell' = true
 | [], u, h => by simp [opsV] at h
 | x :: l, u, h => by
  rw [opsV_cons] at h
  simp only [List.mem_cons] at h
  rcases h with rfl | rfl | rfl | h
  ·
   rfl
  ·
   rfl
  ·
   rfl
  ·
   exact opsV_one l u h
theorem madeCells_three (a b c : Value) : ∀ n : Nat, (madeCells #[a, b, c] (n * 3)).toList = (List.replicate n [a, b, c]).flatten
 | 0 => by simp [madeCells]
 | n + 1 => by
  have ih := madeCells_three a b c n
  simp only [madeCells, Array.toList_map, Array.toList_range] at ih ⊢
  rw [show (n + 1) * 3 = n * 3 + 1 + 1 + 1 by omega, List.range_succ, List.range_succ, List.range_succ]
  simp only [List.map_append, ih, List.map_cons, List.map_nil, List.append_assoc, List.cons_append, List.nil_append]
  have e0 : n * 3 % 3 = 0 := by omega
  have e1 : (n * 3 + 1) % 3 = 1 := by omega
  have e2 : (n * 3 + 1 + 1) % 3 = 2 := by omega
  rw [List.replicate_succ', List.flatten_append]
  simp [e0, e1, e2]
def opZ : Value := .agg #[.int .u8 0, .int .i64 0, .int .i64 0]
theorem opsV_zero (n : Nat) : (madeCells opZ.cells (n * 3)).toList = opsV (List.replicate n ⟨0, 0, 0⟩) := by
 rw [show opZ.cells = #[.int .u8 0, .int .i64 0, .int .i64 0] from rfl, madeCells_three]
 induction n with
 | zero => rfl
 | succ n ih => rw [List.replicate_succ, List.replicate_succ, List.flatten_cons, ih, opsV_cons]; rfl
def HasRow (w : World) (v : Value) (l : List GOp) : Prop := ∃ ao cap, v = .slice ao l.length cap ∧ (ao = none → l.length = 0) ∧ (l.length ≤ cap ∧ ∀ ad, ao = some ad → ad.spot = none) ∧ ∀ ad, ao = some ad → ∀ j u, (opsV l)[j]? = some u → w.cell? (ad.add j) = some u
theorem HasRow.below {w w' : World} {v : Value} {l : List GOp} (h : HasRow w v l) (hb : Below w.heap.size w w') : HasRow w' v l := by
 obtain ⟨ao, cap, h1, h2, h3, h4⟩ := h
 refine ⟨ao, cap, h1, h2, h3, fun ad e j u hu => ?_⟩
 have := h4 ad e j u hu
 exact (hb.cell (World.block_lt_of_cell? _ _ this)).trans this
theorem HasRow.at {w : World} {ao : Option Addr} {n cap : Nat} {l : List GOp} (h : HasRow w (.slice ao n cap) l) {k : Nat} (hk : k < l.length) : n = l.length ∧ n ≤ cap ∧ ∃ b off, ao = some ⟨b, off, none⟩ ∧ ∀ i (hi : i < l.length), w.cell? ⟨b, off + i * 3, none⟩ = some (.int .u8 l[i].kind) ∧ w.cell? ⟨b, off + i * 3 + 1, none⟩ = some (.int .i64 l[i].a) ∧ w.cell? ⟨b, off + i * 3 + 2, none⟩ = some (.int .i64 l[i].b) := by
 obtain ⟨ao', cap', e, h2, h3, h4⟩ := h
 cases e
 refine ⟨rfl, h3.1, ?_⟩
 cases ao with
 | none => have := h2 rfl; omega
 | some ad =>
  obtain ⟨b, off, sp⟩ := ad
  obtain rfl : sp = none := h3.2 _ rfl
  refine ⟨b, off, rfl, fun i hi => ?_⟩
  obtain ⟨g1, g2, g3⟩ := opsV_get l i hi
  have a1 := h4 _ rfl _ _ g1
  have a2 := h4 _ rfl _ _ g2
  have a3 := h4 _ rfl _ _ g3
  rw [Addr.add_lit] at a1 a2 a3
  rw [Nat.add_assoc, Nat.add_assoc]
  exact ⟨a1, a2, a3⟩
theorem HasRow.slice {w : World} {v : Value} {l : List GOp} (h : HasRow w v l) : ∃ ao cap, v = .slice ao l.length cap := by
 obtain ⟨ao, cap, e, _⟩ := h
 exact ⟨ao, cap, e⟩
theorem Own.row {w : World} {o : Col} {c : Nat} {v : Value} {l : List GOp} (h : Own w o c 61 3 v l.length (opsV l)) : HasRow w v l := by
 rcases h.1.2 with ⟨rfl, h0⟩ | ⟨G, cap, cur, rfl, _, _, hnc, _⟩
 ·
  refine ⟨none, 0, by rw [h0], fun _ => h0, ⟨by omega, fun ad e => by cases e⟩, fun ad e => by cases e⟩
 ·
  refine ⟨_, cap, rfl, (fun e => by cases e), ⟨hnc, fun ad e => by cases e; rfl⟩, fun ad e j u hu => ?_⟩
  obtain rfl := Option.some.inj e
  exact h.1.cells (g := G) rfl j u hu
structure GPart where
 tag : Int
 params : List Int
structure GLine where
 base : Int
 size : Int
 start : List Int
structure GProg where
 memory : Int
 counters : Int
 ins : Int
 outs : Int
 parts : List GPart
 lines : List GLine
 ops : List GOp
def GProg.zero : GProg := ⟨0, 0, 0, 0, [], [], []⟩
theorem errP_some (t : Int) : errP t = 60 ∨ errP t = 61 := by unfold errP; split <;> simp
end Go.Proofs.Ytbmbfifempkhgaa

/- Programs in memory; rows of records that end in a list. No function in sight. -/
namespace Go.Proofs.Ytbmbfifempkhgaa
open Go.RowKit
def TailR {α : Type} (hd : α → List Value) (tl : α → List Int) (w : World) (a : α) (cs : List Value) : Prop := ∃ y, cs = hd a ++ [y] ∧ Has w y (ivs (tl a))
theorem tail_steady {α : Type} (hd : α → List Value) (tl : α → List Int) : Steady (TailR hd tl) := fun _ _ _ _ hb ⟨y, h1, h2⟩ => ⟨y, h1, h2.below hb⟩
def partHd (p : GPart) : List Value := [.int .u8 p.tag]
def lineHd (l : GLine) : List Value := [.int .i64 l.base, .int .i64 l.size]
def HasProg (w : World) (v : Value) (P : GProg) : Prop := ∃ vp vl vo, v = .agg #[.int .i64 P.memory, .int .i64 P.counters, .int .i64 P.ins, .int .i64 P.outs, vp, vl, vo] ∧ Recs w 2 (TailR partHd GPart.params) vp P.parts ∧ Recs w 3 (TailR lineHd GLine.start) vl P.lines ∧ HasRow w vo P.ops
theorem HasProg.below {w w' : World} {v : Value} {P : GProg} (h : HasProg w v P) (hb : Below w.heap.size w w') : HasProg w' v P := by
 obtain ⟨vp, vl, vo, h0, h1, h2, h3⟩ := h
 exact ⟨vp, vl, vo, h0, h1.below (tail_steady _ _) hb, h2.below (tail_steady _ _) hb, h3.below hb⟩
theorem hasProg_zero (w : World) : HasProg w (.agg #[.int .i64 0, .int .i64 0, .int .i64 0, .int .i64 0, .slice none 0 0, .slice none 0 0, .slice none 0 0]) .zero :=
 ⟨_, _, _, rfl, .inl ⟨rfl, _, _, rfl⟩, .inl ⟨rfl, _, _, rfl⟩, none, 0, rfl, fun _ => rfl, ⟨Nat.le_refl _, fun _ h => by cases h⟩, fun _ h => by cases h⟩
def tailV {α : Type} (hd : α → List Value) (ps : List (α × Value)) : List Value := ps.flatMap fun x => hd x.1 ++ [x.2]
theorem tailV_len {α : Type} {hd : α → List Value} {sz : Nat} (hsz : ∀ a, (hd a).length + 1 = sz) : ∀ ps : List (α × Value), (tailV hd ps).length = ps.length * sz
 | [] => by simp [tailV]
 | x :: ps => by
  have ih := tailV_len hsz ps
  have := hsz x.1
  simp only [tailV, List.flatMap_cons, List.length_append, List.length_cons, List.length_nil, Nat.add_mul] at ih ⊢
  rw [ih]
  omega
theorem tailV_snoc {α : Type} (hd : α → List Value) (ps : List (α × Value)) (a : α) (y : Value) : tailV hd (ps ++ [(a, y)]) = tailV hd ps ++ (hd a ++ [y]) := by simp [tailV]
theorem tailV_get {α : Type} {hd : α → List Value} {sz : Nat} (hsz : ∀ a, (hd a).length + 1 = sz) : ∀ (ps : List (α × Value)) (k i : Nat) (hk : k < ps.length), i < sz → (tailV hd ps)[k * sz + i]? = (hd (ps[k]).1 ++ [(ps[k]).2])[i]?
 | [], k, i, hk, hi => by simp at hk
 | x :: ps, 0, i, hk, hi => by
  rw [Nat.zero_mul, Nat.zero_add]
  show ((hd x.1 ++ [x.2]) ++ tailV hd ps)[i]? = _
  have := hsz x.1
  rw [List.getElem?_append_left (by simp; omega)]
  rfl
 | x :: ps, k + 1, i, hk, hi => by
  have ih := tailV_get hsz ps k i (by simpa using hk) hi
  have := hsz x.1
  show ((hd x.1 ++ [x.2]) ++ tailV hd ps)[(k + 1) * sz + i]? = _
  have hl : (hd x.1 ++ [x.2]).length = sz := by simp; omega
  rw [List.getElem?_append_right (by rw [hl, Nat.add_mul]; omega), hl, show (k + 1) * sz + i - sz = k * sz + i by rw [Nat.add_mul]; omega, ih]
  rfl
structure TailAt {α : Type} (hd : α → List Value) (tl : α → List Int) (w : World) (o : Col) (c d : Nat) (ty sz : Nat) (v : Value) (ps : List (α × Value)) : Prop where
 own : Own w o c ty sz v ps.length (tailV hd ps)
 ok : ∀ x ∈ ps, Ints w o d x.2 (tl x.1)
section
variable {α : Type} {hd : α → List Value} {tl : α → List Int} {w w' w2 : World} {o o' : Col} {C : Nat → Prop} {c d ty sz : Nat} {v : Value} {ps : List (α × Value)}
theorem TailAt.turn (h : TailAt hd tl w o c d ty sz v ps) (T : Turn o o' C w w') (hc : ¬ C c) (hdd : ¬ C d) : TailAt hd tl w' o' c d ty sz v ps := ⟨h.own.turn T hc, fun x hx => (h.ok x hx).turn T hdd⟩
theorem TailAt.nil : TailAt hd tl w o c d ty sz (.slice none 0 0) [] := ⟨Own.nil _ _ _ _ _, fun _ h => by cases h⟩
theorem TailAt.recs (hsz : ∀ a, (hd a).length + 1 = sz) (h : TailAt hd tl w o c d ty sz v ps) : Recs w sz (TailR hd tl) v (ps.map Prod.fst) := by
 rcases h.own.1.2 with ⟨rfl, h0⟩ | ⟨G, cap, cur, rfl, _, hg, hnc, _⟩
 ·
  rw [List.eq_nil_of_length_eq_zero h0]
  exact .inl ⟨rfl, none, 0, rfl⟩
 ·
  by_cases hp : 0 < ps.length
  ·
   refine .inr ⟨by simpa using hp, G, 0, cap, by simp, by simpa using hnc, block_lt hg, fun k hk => ?_⟩
   have hk' : k < ps.length := by simpa using hk
   refine ⟨hd (ps[k]).1 ++ [(ps[k]).2], by simp [hsz], ⟨(ps[k]).2, by simp, by simpa using (h.ok _ (List.getElem_mem hk')).has⟩, fun i hi => ?_⟩
   have hg2 := tailV_get hsz ps k i hk' hi
   have hlen : i < (hd (ps[k]).1 ++ [(ps[k]).2]).length := by simp [hsz]; exact hi
   rw [List.getElem?_eq_getElem hlen] at hg2 ⊢
   have := h.own.1.cells (g := G) rfl _ _ hg2
   rw [Addr.add_lit] at this
   rw [Nat.add_assoc]
   exact this
  ·
   rw [List.eq_nil_of_length_eq_zero (by omega : ps.length = 0)]
   exact .inl ⟨rfl, some ⟨G, 0, none⟩, cap, rfl⟩
theorem TailAt.grow {B i e : Nat} {t : TypeId} {cs : Array Value} {a : α} {y v' : Value} (h : TailAt hd tl w o c d ty sz v ps) (hB : Blk w o e B t cs) (hce : c ≠ e) (hde : d ≠ e) (hcd : c ≠ d) (hi : i < cs.size) (hy : Ints w o d y (tl a))
  (k1 : w2.ownsRow 0 ty sz v' (ps.length + 1) (tailV hd ps ++ (hd a ++ [y]))) (k2 : Mods (fun b => v.ownBlock = some b) w w2) (k4 : v'.ownBlock = v.ownBlock ∨ ∀ b, v'.ownBlock = some b → w.heap.size ≤ b) :
  w2.cell? ⟨B, i, none⟩ = some cs[i] ∧ w2.frozen? ⟨B, i, none⟩ = false ∧ Turn o (ext o w.heap.size c) (fun x => x = c ∨ x = e) w (w2.setCell ⟨B, i, none⟩ v') ∧ TailAt hd tl (w2.setCell ⟨B, i, none⟩ v') (ext o w.heap.size c) c d ty sz v' (ps ++ [(a, y)]) ∧ Blk (w2.setCell ⟨B, i, none⟩ v') (ext o w.heap.size c) e B t (cs.setIfInBounds i v') := by
 have T : Turn o (ext o w.heap.size c) (fun x => x = c) w w2 := Turn.of_mods o c k2 (fun b _ hb => h.own.2 b hb)
 have b2 := hB.turn T (fun e => hce e.symm)
 obtain ⟨b3, T3⟩ := b2.set i v'
 have hM := hB.lt
 have hMc : o B = e := hB.2
 have hvM : v'.ownBlock ≠ some B := fun e => by
  rcases k4 with k4 | k4
  ·
   rw [k4] at e
   have := h.own.2 B e
   omega
  ·
   have := k4 B e; omega
 refine ⟨b2.cell i _ (by simp [hi]), b2.frozen i, (T.mono (D := fun x => x = c ∨ x = e) (fun x e => .inl e)).trans T3 (fun x e => .inr e), ⟨⟨?_, fun b hb => ?_⟩, fun x hx => ?_⟩, b3⟩
 ·
  rw [List.length_append, tailV_snoc]
  exact ownsRow_setCell_other k1 hvM v'
 ·
  rcases k4 with k4 | k4
  ·
   rw [k4] at hb
   exact (ext_old (h.own.1.lt b hb).2).trans (h.own.2 b hb)
  ·
   exact ext_new (k4 b hb)
 ·
  rcases List.mem_append.1 hx with hx | hx
  ·
   exact ((h.ok x hx).turn T (fun e => hcd e.symm)).turn T3 (fun e => hde e)
  ·
   obtain rfl : x = (a, y) := by simpa using hx
   exact (hy.turn T (fun e => hcd e.symm)).turn T3 (fun e => hde e)
end
theorem results_row_tmp {P : Program} {fn : Func} {p u : Tmp} {ty : TypeId} (h : fn.results = #[.cell p ty, .tmp u]) (tmps : Array Value) (w : World) (g : Nat) (t : TypeId) (cs : Array Value) (fr : Nat × Nat) (d : TypeDesc)
  (hp : tmps.getD p undef = .pointer (some ⟨g, 0, none⟩)) (hg : w.heap[g]? = some (.cells cs t fr))
  (hu : P.underlying ty = some d) (hd : (match d with | .struct _ | .array _ _ => true | _ => false) = true) (hi : (P.info? ty).map (·.size) = some cs.size) :
  (results fn tmps).run P w = .ok (.tuple #[.agg cs, tmps.getD u undef]) w := by
 have hp' : tmps[p]?.getD undef = .pointer (some ⟨g, 0, none⟩) := by simpa using hp
 simp [results, h, hp', asAddr, Result.andThen, run_loadVar_row w g t ty cs fr d hg hu hd hi]
abbrev progZ : Array Value := #[.int .i64 0, .int .i64 0, .int .i64 0, .int .i64 0, .slice none 0 0, .slice none 0 0, .slice none 0 0]
abbrev setProg (w : World) (R : Nat) (a b c d x y z : Value) : World := ((((((w.setCell ⟨R, 0, none⟩ a).setCell ⟨R, 1, none⟩ b).setCell ⟨R, 2, none⟩ c).setCell ⟨R, 3, none⟩ d).setCell ⟨R, 4, none⟩ x).setCell ⟨R, 5, none⟩ y).setCell ⟨R, 6, none⟩ z
theorem prog_set {w : World} {R : Nat} {t : TypeId} (h : w.heap[R]? = some (.cells progZ t (0, 0))) (a b c d x y z : Value) : (setProg w R a b c d x y z).heap[R]? = some (.cells #[a, b, c, d, x, y, z] t (0, 0)) :=
 block_setCell (block_setCell (block_setCell (block_setCell (block_setCell (block_setCell (block_setCell h 0 a) 1 b) 2 c) 3 d) 4 x) 5 y) 6 z
theorem prog_below {w0 w : World} {R : Nat} (h : Below w0.heap.size w0 w) (hs : w0.heap.size ≤ w.heap.size) (hR : w0.heap.size ≤ R) (a b c d x y z : Value) : Below w0.heap.size w0 (setProg w R a b c d x y z) :=
 have m : Mods (fun k => w0.heap.size ≤ k) w (setProg w R a b c d x y z) :=
  ((((((Mods.refl _ w).setCell (p := ⟨R, 0, none⟩) (fun _ => hR) a).setCell (p := ⟨R, 1, none⟩) (fun _ => hR) b).setCell (p := ⟨R, 2, none⟩) (fun _ => hR) c).setCell (p := ⟨R, 3, none⟩) (fun _ => hR) d).setCell (p := ⟨R, 4, none⟩) (fun _ => hR) x).setCell (p := ⟨R, 5, none⟩) (fun _ => hR) y |>.setCell (p := ⟨R, 6, none⟩) (fun _ => hR) z
 h.trans (m.below hs (fun k hk f => by omega))
theorem prog_mods (w : World) (R : Nat) (a b c d x y z : Value) : Mods (fun k => k = R) w (setProg w R a b c d x y z) :=
 ((((((Mods.refl (fun k => k = R) w).setCell (p := ⟨R, 0, none⟩) (fun _ => rfl) a).setCell (p := ⟨R, 1, none⟩) (fun _ => rfl) b).setCell (p := ⟨R, 2, none⟩) (fun _ => rfl) c).setCell (p := ⟨R, 3, none⟩) (fun _ => rfl) d).setCell (p := ⟨R, 4, none⟩) (fun _ => rfl) x).setCell (p := ⟨R, 5, none⟩) (fun _ => rfl) y |>.setCell (p := ⟨R, 6, none⟩) (fun _ => rfl) z
theorem HasRow.mods {w w' : World} {F : Nat → Prop} {ao : Option Addr} {n cap : Nat} {l : List GOp} (h : HasRow w (.slice ao n cap) l) (m : Mods F w w') (hF : ∀ ad, ao = some ad → ¬ F ad.block) : HasRow w' (.slice ao n cap) l := by
 obtain ⟨ao', cap', e, h2, h3, h4⟩ := h
 cases e
 refine ⟨_, _, rfl, h2, h3, fun ad e j u hu => ?_⟩
 have := h4 ad e j u hu
 have hb := World.block_lt_of_cell? _ _ this
 refine (m.cell (p := ad.add j) hb ?_).trans this
 have e2 : (ad.add j).block = ad.block := by unfold Addr.add; split <;> rfl
 rw [e2]
 exact hF ad e
end Go.Proofs.Ytbmbfifempkhgaa
