/- The queue and the reference's queue, call by call: walked. -/
import Derived.Test.YtifhnealecndnaaW20
import Derived.Test.YtifhnealecndnaaW16
import Derived.Test.YtifhnealecndnaaMix
namespace Go.Proofs.Ytifhnealecndnaa
open Go.RowKit Go.Shelf
attribute [local go_sem] Oper.semAt_some

set_option maxRecDepth 100000 in
set_option maxHeartbeats 1000000 in
theorem plays_neg (w : World) (C : Int) (zs : List Int) (ao : Option Addr) (zc : Nat) (so : Option Addr) (sn sc : Nat) (h : C < 0) (hz : zs.length ≤ 17600000000000)
    (hnone : ao = none → zs.length = 0) (hcz : ∀ ad, ao = some ad → ∀ j u, (zs.map (Value.int .i64))[j]? = some u → w.cell? (ad.add j) = some u) :
    Calls Try.prog 4 #[.int .i64 C, .slice ao zs.length zc, .slice so sn sc] w fun e w' => e = .returned (.bool true) ∧ Below w.heap.size w w' := by
  have HZ := Lib.hid hz
  have hst : HasInts w (.slice ao zs.length zc) zs := has_of_cells hnone hcz
  have Hnone := Lib.hid hnone
  have Hcz := Lib.hid hcz
  clear hz hnone hcz
  go_enter Try.func4, Try.ntmps4
  go_wp2_with fail
  refine (lent_any w zs ao zc HZ.out Hnone.out Hcz.out).mono ?_
  rintro e w1 ⟨g, cap, rfl, ho, hb1⟩
  have hs1 := hb1.size
  have hl1 := lends_of_owns ho
  go_wp2_with fail
  refine (iq_new_no _ C _ h).mono ?_
  rintro e w2 ⟨rfl, rfl⟩
  go_wp2_with fail
  refine (rnew_no w2 C _ h).mono ?_
  rintro e w3 ⟨rfl, hb3⟩
  have hs3 := hb3.size
  go_wp2_with fail
  have hb3a : Below w2.heap.size w2 (w3.alloc (.cells #[.int .i64 0, .slice none 0 0] 41)) := hb3.alloc hs3 _
  have hbw := hb1.trans (hb3a.mono hs1)
  refine (kept_yes _ zs g cap ao zc HZ.out (hl1.below hb3a) (hst.below hbw)).mono ?_
  rintro e w4 ⟨rfl, m4, rfl⟩
  go_wp2_with fail
  refine (awake_yes _).mono ?_
  rintro e w5 ⟨rfl, hb5⟩
  go_wp2
  go_ret
  exact ⟨rfl, hbw.trans (below_ld (hb5.mono (by show _ ≤ (w3.alloc _).heap.size; simp; omega)))⟩

/-- a row, cut at its end -/
theorem owns_cut {w : World} {base e g n m cap : Nat} {xs ys : List Value} (h : w.ownsRow base e 1 (.slice (some ⟨g, 0, none⟩) (n + m) cap) (n + m) (xs ++ ys)) (hx : xs.length = n := by simp) : w.ownsRow base e 1 (.slice (some ⟨g, 0, none⟩) n cap) n xs := by
  rcases h.2 with ⟨h1, _⟩ | ⟨g', cap', cur, hv, hb, hh, hn, hm, hs, ht⟩
  · cases h1
  · cases hv
    refine ⟨by omega, .inr ⟨g, cap, cur, rfl, hb, hh, by omega, hm, hs, ?_⟩⟩
    have := congrArg (List.take n) ht
    rw [List.take_take] at this
    have e1 : min n ((n + m) * 1) = n * 1 := by omega
    rw [e1, List.take_left' hx] at this
    exact this

/-- the queue holds l, the reference's list (its box: block R) holds lr; E: blocks of the round's own; Ds: the marks of the ranges that have ended -/
def PS (E : Nat → Prop) (w : World) (B b R : Nat) (C : Int) (l lr : List Int) (N : Nat) (r : Option Nat) (v : Value) (Ds : List Nat) : Prop :=
  IQ w B b C l r N ∧ w.heap[R]? = some (.cells #[.int .i64 C, v] 41 (0, 0)) ∧ LstAt w v lr (fun k => k = b ∨ r = some k ∨ k = R ∨ E k) ∧ r ≠ some R ∧ b ≠ R ∧ (∀ k, E k → k < w.heap.size ∧ k ≠ b ∧ r ≠ some k ∧ k ≠ R) ∧
    ∀ D ∈ Ds, w.heap[D]? = some (.deferred (some [])) ∧ ¬ E D

section
variable {E E' F : Nat → Prop} {w w' w5 : World} {B b R N N' : Nat} {C : Int} {l l' lr lr' : List Int} {r r' : Option Nat} {v v' : Value} {Ds : List Nat}

theorem PS.lts (h : PS E w B b R C l lr N r v Ds) : b < w.heap.size ∧ B ≤ b ∧ R < w.heap.size ∧ ∀ k, r = some k → B ≤ k ∧ k < w.heap.size := by
  obtain ⟨k1, k2, k3, _⟩ := h.1.lt
  exact ⟨k1, k2, block_lt h.2.1, fun k hk => ⟨(k3 k hk).1, (k3 k hk).2.1⟩⟩

theorem PS.nomark (h : PS E w B b R C l lr N r v Ds) {D : Nat} (hD : D ∈ Ds) : D ≠ b ∧ r ≠ some D ∧ D ≠ R ∧ ¬ E D := by
  obtain ⟨q, hR, hv, h1, h2, h3, h4⟩ := h
  obtain ⟨hd, hE⟩ := h4 D hD
  refine ⟨fun e => ?_, fun e => ?_, fun e => ?_, hE⟩
  · obtain ⟨v, g, zs, hb, _⟩ := q
    rw [e, hb] at hd; cases hd
  · obtain ⟨cs, fr, hc⟩ := iq_cells_t q e
    rw [hc] at hd; cases hd
  · rw [e, hR] at hd; cases hd

theorem PS.below (h : PS E w B b R C l lr N r v Ds) (hb : Below w.heap.size w w') (hE : ∀ k, E' k → k < w'.heap.size ∧ (k < w.heap.size → E k)) : PS E' w' B b R C l lr N r v Ds := by
  have hl := h.lts
  obtain ⟨q, hR, hv, h1, h2, h3, h4⟩ := h
  have hm := Mods.of_below hb (fun _ => False)
  refine ⟨q.frame hm (fun h => h) (fun _ _ h => h), block_mods hR hm (fun h => h), hv.mods hm (fun _ _ h => h.elim) (fun k hk f => ?_), h1, h2, fun k hk => ⟨(hE k hk).1, ?_⟩, fun D hD => ⟨block_mods (h4 D hD).1 hm (fun h => h), fun e => (h4 D hD).2 ((hE D e).2 (block_lt (h4 D hD).1))⟩⟩
  · rcases f with f | f | f | f
    · exact .inl f
    · exact .inr (.inl f)
    · exact .inr (.inr (.inl f))
    · exact .inr (.inr (.inr ((hE k f).2 hk)))
  · by_cases hkw : k < w.heap.size
    · exact (h3 k ((hE k hk).2 hkw)).2
    · exact ⟨by omega, fun e => by have := hl.2.2.2 k e; omega, by omega⟩

theorem PS.frame (h : PS E w B b R C l lr N r v Ds) (hm : Mods F w w') (hF : ∀ k, F k → E k) : PS E w' B b R C l lr N r v Ds := by
  have hn := fun {D} => h.nomark (D := D)
  obtain ⟨q, hR, hv, h1, h2, h3, h4⟩ := h
  have n : ∀ k, F k → k ≠ b ∧ r ≠ some k ∧ k ≠ R := fun k hk => (h3 k (hF k hk)).2
  exact ⟨q.frame hm (fun f => (n b f).1 rfl) (fun k hk f => (n k f).2.1 hk), block_mods hR hm (fun f => (n R f).2.2 rfl), hv.mods hm (fun k _ f => .inr (.inr (.inr (hF k f)))) (fun _ _ h => h), h1, h2,
    fun k hk => ⟨Nat.lt_of_lt_of_le (h3 k hk).1 hm.size, (h3 k hk).2⟩, fun D hD => ⟨block_mods (h4 D hD).1 hm (fun f => (h4 D hD).2 (hF D f)), (h4 D hD).2⟩⟩

theorem PS.mono (h : PS E w B b R C l lr N r v Ds) (hN : N ≤ N') : PS E w B b R C l lr N' r v Ds := ⟨h.1.mono hN, h.2⟩

theorem PS.ref (h : PS E w B b R C l lr N r v Ds) (hb : Below w.heap.size w w5)
    (hv' : LstAt w5 v' lr' (fun k => k = b ∨ r = some k ∨ k = R ∨ E k)) : PS E ((w5.setCell ⟨R, 0, none⟩ (.int .i64 C)).setCell ⟨R, 1, none⟩ v') B b R C l lr' N r v' Ds ∧ Mods (fun k => k = R) w ((w5.setCell ⟨R, 0, none⟩ (.int .i64 C)).setCell ⟨R, 1, none⟩ v') := by
  have hn := fun {D} => h.nomark (D := D)
  obtain ⟨q, hR, hv, h1, h2, h3, h4⟩ := h
  have hm := Mods.of_below hb (fun _ => False)
  have hm2 : Mods (fun k => k = R) w5 ((w5.setCell ⟨R, 0, none⟩ (.int .i64 C)).setCell ⟨R, 1, none⟩ v') := ((Mods.refl (fun k => k = R) w5).setCell (p := ⟨R, 0, none⟩) (fun _ => rfl) _).setCell (p := ⟨R, 1, none⟩) (fun _ => rfl) _
  have hR5 := block_mods hR hm (fun h => h)
  have hm3 : Mods (fun k => k = R) w ((w5.setCell ⟨R, 0, none⟩ (.int .i64 C)).setCell ⟨R, 1, none⟩ v') := hm.trans hm2 (fun _ _ h => h.elim) (fun _ _ h => h)
  exact ⟨⟨q.frame hm3 h2 (fun k hk e => h1 (by rw [hk, e])), block_setCell (block_setCell hR5 0 _) 1 _, hv'.mods hm2 (fun _ _ h => .inr (.inr (.inl h))) (fun _ _ h => h), h1, h2, fun k hk => ⟨Nat.lt_of_lt_of_le (h3 k hk).1 hm3.size, (h3 k hk).2⟩,
    fun D hD => ⟨block_mods (h4 D hD).1 hm3 (hn hD).2.2.1, (h4 D hD).2⟩⟩, hm3⟩

theorem PS.ref_own (h : PS E w B b R C l lr N r v Ds) (hb : Below w.heap.size w w5) (hv' : w5.ownsRow w.heap.size 3 1 v' lr'.length (lr'.map (Value.int .i64))) :
    PS E ((w5.setCell ⟨R, 0, none⟩ (.int .i64 C)).setCell ⟨R, 1, none⟩ v') B b R C l lr' N r v' Ds ∧ Mods (fun k => k = R) w ((w5.setCell ⟨R, 0, none⟩ (.int .i64 C)).setCell ⟨R, 1, none⟩ v') :=
  h.ref hb (lst_of_owns hv' fun k hk f => by
    have hl := h.lts
    have hk' := (hv'.lt k hk).1
    rcases f with f | f | f | f
    · omega
    · have := hl.2.2.2 k f; omega
    · omega
    · have := (h.2.2.2.2.2.1 k f).1; omega)

theorem PS.queue (h : PS E w B b R C l lr N r v Ds) (q' : IQ w' B b C l' r' N') (hm : Mods F w w') (hF : ∀ k, F k → k = b ∨ r = some k)
    (hr : r' = r ∨ ∃ k, r' = some k ∧ w.heap.size ≤ k) : PS E w' B b R C l' lr N' r' v Ds := by
  have hn := fun {D} => h.nomark (D := D)
  obtain ⟨q, hR, hv, h1, h2, h3, h4⟩ := h
  have new : ∀ k, k < w.heap.size → r ≠ some k → r' ≠ some k := fun k hk hn => by
    rcases hr with rfl | ⟨k', hr, hk'⟩
    · exact hn
    · rw [hr]; intro e; have := Option.some.inj e; omega
  refine ⟨q', block_mods hR hm (fun f => (hF _ f).elim (fun e => h2 e.symm) h1), hv.mods hm (fun k _ f => (hF k f).elim .inl (fun e => .inr (.inl e))) (fun k hk f => ?_), new R (block_lt hR) h1, h2,
    fun k hk => ⟨Nat.lt_of_lt_of_le (h3 k hk).1 hm.size, (h3 k hk).2.1, new k (h3 k hk).1 (h3 k hk).2.2.1, (h3 k hk).2.2.2⟩, fun D hD => ⟨block_mods (h4 D hD).1 hm (fun f => (hF D f).elim (hn hD).1 (hn hD).2.1), (h4 D hD).2⟩⟩
  rcases f with f | f | f | f
  · exact .inl f
  · by_cases hrk : r = some k
    · exact .inr (.inl hrk)
    · exact absurd f (new k hk hrk)
  · exact .inr (.inr (.inl f))
  · exact .inr (.inr (.inr f))

theorem PS.lst (h : PS E w B b R C l lr N r v Ds) : ∃ a c, v = .slice a lr.length c := by
  rcases h.2.2.1 with ⟨rfl, a, c, rfl⟩ | ⟨_, x, off, c, rfl, _⟩
  · exact ⟨a, c, rfl⟩
  · exact ⟨_, c, rfl⟩

theorem PS.mods_below {B0 : Nat} (h : PS E w B b R C l lr N r v Ds) (hm : Mods F w w') (hF : ∀ k, F k → k = b ∨ r = some k ∨ k = R ∨ B0 ≤ k) (hB : B0 ≤ B) (hR : B0 ≤ R) (h0 : B0 ≤ w.heap.size) : Below B0 w w' :=
  hm.below h0 fun k hk f => by
    have hl := h.lts
    rcases hF k f with f | f | f | f
    · omega
    · have := (hl.2.2.2 k f).1; omega
    · omega
    · omega

/-- one more mark -/
theorem PS.mark (h : PS E w B b R C l lr N r v Ds) {D : Nat} (hD : w.heap[D]? = some (.deferred (some []))) (hE : ¬ E D) : PS E w B b R C l lr N r v (D :: Ds) :=
  ⟨h.1, h.2.1, h.2.2.1, h.2.2.2.1, h.2.2.2.2.1, h.2.2.2.2.2.1, fun x hx => by rcases List.mem_cons.1 hx with rfl | hx; exact ⟨hD, hE⟩; exact h.2.2.2.2.2.2 x hx⟩

end

/-- the marks -/
def mks (Ds : List Nat) : List Deferred := Ds.map fun D => { target := .collected D, args := #[] }

theorem leaves_mks {n : Nat} {P : Program} {fn : Func} {tmps : Array Value} {B : Nat} {w0 : World} {v : Value} (hres : ∀ w, (results fn tmps).run P w = .ok v w) : ∀ (Ds : List Nat) (w : World), Ds.Nodup → (∀ D ∈ Ds, w.heap[D]? = some (.deferred (some [])) ∧ B ≤ D) → B = w0.heap.size → Below B w0 w →
    LeavesInM Fence.wide n P fn tmps (fun e w' => e = .returned v ∧ Below B w0 w') (mks Ds) .returning w
  | [], w, _, _, _, hb => ⟨v, hres w, rfl, hb⟩
  | D :: Ds, w, hnd, hD, hB, hb => by
    have h0 := hD D (by simp)
    have hnd' := List.nodup_cons.1 hnd
    refine ⟨by simp, .inl ⟨D, _, rfl, run_takeDeferred h0.1, ?_⟩⟩
    refine leaves_mks hres Ds _ hnd'.2 (fun x hx => ⟨?_, (hD x (by simp [hx])).2⟩) hB ?_
    · exact (World.putObj_heap_other (fun e => hnd'.1 (by rw [← e]; exact hx))).trans (hD x (by simp [hx])).1
    · subst hB
      exact hb.trans (belowK_b (w := w0) (Nat.le_refl _) w D (.deferred (some [])) (.deferred none) h0.2 h0.1 rfl rfl)

/-- two blocks of the round's own -/
def EB (O : Nat) (k : Nat) : Prop := k = O ∨ k = O + 1

/-- three blocks of the round's own -/
def EB3 (O : Nat) (k : Nat) : Prop := k = O ∨ k = O + 1 ∨ k = O + 2

theorem boxes3 {wr w2 : World} {x y z : Obj} (h : w2 = ((wr.alloc x).alloc y).alloc z) : Below wr.heap.size wr w2 ∧ w2.heap[wr.heap.size]? = some x ∧ w2.heap[wr.heap.size + 1]? = some y ∧ w2.heap[wr.heap.size + 2]? = some z ∧ w2.heap.size = wr.heap.size + 3 := by
  subst h
  have h1 := heap_alloc_new (wr.alloc x) y
  have h2 := heap_alloc_new ((wr.alloc x).alloc y) z
  refine ⟨(((Below.refl _ _).alloc (Nat.le_refl _) _).alloc (by simp) _).alloc (by simp; omega) _, block_alloc (block_alloc (heap_alloc_new wr x) y) z, block_alloc ?_ z, ?_, by simp⟩
  · simpa using h1
  · simpa using h2

theorem boxes2 {wr w2 : World} {x y : Obj} (h : w2 = (wr.alloc x).alloc y) : Below wr.heap.size wr w2 ∧ w2.heap[wr.heap.size]? = some x ∧ w2.heap[wr.heap.size + 1]? = some y ∧ w2.heap.size = wr.heap.size + 2 := by
  subst h
  refine ⟨((Below.refl _ _).alloc (Nat.le_refl _) _).alloc (by simp) _, block_alloc (heap_alloc_new wr x) y, ?_, by simp⟩
  have := heap_alloc_new (wr.alloc x) y
  simpa using this

set_option maxRecDepth 100000 in
set_option maxHeartbeats 8000000 in
theorem plays_in (w : World) (C : Int) (zs : List Int) (ao : Option Addr) (zc : Nat) (os : List (Int × Int)) (so : Option Addr) (sc : Nat) (hC : 0 ≤ C) (hC' : C ≤ 9223372036854775807) (hz : zs.length ≤ 17600000000000) (hn : os.length ≤ 9000000000000)
    (hnone : ao = none → zs.length = 0) (hcz : ∀ ad, ao = some ad → ∀ j u, (zs.map (Value.int .i64))[j]? = some u → w.cell? (ad.add j) = some u) (hc : OpsAt w so os) :
    CallsIn Fence.wide 5 Try.prog 4 #[.int .i64 C, .slice ao zs.length zc, .slice so os.length sc] w fun e w' => e = .returned (.bool true) ∧ Below w.heap.size w w' := by
  obtain ⟨i0, hi, hz0, hz1, hz2⟩ := info_parts info3
  have HZ := Lib.hid hz
  have HN := Lib.hid hn
  have HC := Lib.hid hc
  have hst : HasInts w (.slice ao zs.length zc) zs := has_of_cells hnone hcz
  have Hnone := Lib.hid hnone
  have Hcz := Lib.hid hcz
  have hn2 : os.length ≤ 4611686018427387904 := by omega
  clear hz hnone hcz hn hc
  refine callsIn_of_wp_marks Try.func4 rfl trivial ?_ rfl
  simp only [Try.ntmps4, List.size_toArray, List.length_cons, List.length_nil, Nat.reduceAdd, Nat.reduceSub, Array.replicate_succ, Array.replicate_zero, List.push_toArray, List.append_toArray, List.nil_append, List.cons_append]
  gi_wp2_with fail
  refine ⟨trivial, (callsIn_wide.2 (lent_any w zs ao zc HZ.out Hnone.out Hcz.out)).mono ?_⟩
  rintro e w1 ⟨g, cap, rfl, ho, hb1⟩
  have hs1 := hb1.size
  have hl1 := lends_of_owns ho
  gi_wp2_with fail
  refine ⟨trivial, (callsIn_wide.2 (iq_new_yes w1 C (some ⟨g, 0, none⟩) cap zs hC hC' (fun h => by cases h) (fun ad had j u hu => by obtain rfl := Option.some.inj had; rw [Addr.add_lit]; have hj : j < zs.length := by { have := (List.getElem?_eq_some_iff.1 hu).1; simpa using this }; rw [Nat.zero_add, hl1.2.2.2.1 j hj]; simpa [hj] using hu) (by have := HZ.out; omega))).mono ?_⟩
  rintro e w2 ⟨b, r, rfl, hb2, q2⟩
  have hs2 := hb2.size
  gi_wp2_with fail
  refine ⟨trivial, (callsIn_wide.2 (rnew_yes w2 C zs ao zc hC HZ.out Hnone.out (new_cells (hb1.trans (hb2.mono hs1)) Hcz.out))).mono ?_⟩
  rintro e w3 ⟨ri, rfl, ho3, hb3⟩
  have hs3 := hb3.size
  obtain ⟨rsl, rcl, rfl⟩ := owns_slice ho3
  gi_wp2_with fail
  have hb3a : Below w2.heap.size w2 (w3.alloc (.cells #[.int .i64 C, .slice rsl zs.length rcl] 41)) := hb3.alloc hs3 _
  have hbw := hb1.trans (hb2.mono hs1 |>.trans (hb3a.mono (by omega)))
  have hlt2 := q2.lt
  have hm3 := Mods.of_below hb3a (fun _ => False)
  have q4 := q2.frame hm3 (fun h => h) (fun _ _ h => h)
  have ho4 := ho3.alloc (.cells #[.int .i64 C, .slice rsl zs.length rcl] 41)
  have ho4OT : ∀ k, (Value.slice rsl zs.length rcl).ownBlock = some k → k < w3.heap.size := fun k hk => (ho3.lt k hk).2
  have hR4 := heap_alloc_new w3 (.cells #[.int .i64 C, .slice rsl zs.length rcl] 41)
  have hKl := hl1.below (hb2.trans (hb3a.mono hs2))
  have hKh := hst.below hbw
  have hRge : w1.heap.size ≤ w3.heap.size := by omega
  have hog := owns_kept ho (Mods.of_below (hb2.trans (hb3a.mono hs2)) (fun _ => False)) (fun _ _ h => h)
  have hbR : b < w3.heap.size := by omega
  have hrR : ∀ k, r = some k → w1.heap.size ≤ k ∧ k < w3.heap.size ∧ k < w2.heap.size := fun k hk => by have := hlt2.2.2.1 k hk; omega
  have hgw : g < w1.heap.size := hl1.2.2.1
  rw [List.map_append] at hog
  obtain ⟨R, hRe⟩ : ∃ R, R = w3.heap.size := ⟨_, rfl⟩
  have hw4s : (w3.alloc (.cells #[.int .i64 C, .slice rsl zs.length rcl] 41)).heap.size = R + 1 := by simp [hRe]
  rw [← hRe] at hRge hR4 hbR hrR ho4OT ⊢
  have hw2R : w2.heap.size ≤ R := by omega
  generalize hw4 : w3.alloc (.cells #[.int .i64 C, .slice rsl zs.length rcl] 41) = w4 at *
  refine ⟨trivial, (callsIn_wide.2 (kept_yes _ zs g cap ao zc HZ.out hKl hKh)).mono ?_⟩
  rintro e w5 ⟨rfl, m5, rfl⟩
  clear hw4 hRe hb3a hb3 hs3 hb2 hm3 ho3 q2
  gi_wp2_with fail
  have hA : ((w4.drewN m5).alloc (.cells #[.slice (some ⟨g, 0, none⟩) zs.length cap] 22)).heap[R + 1]? = some (.cells #[.slice (some ⟨g, 0, none⟩) zs.length cap] 22 (0, 0)) := by
    have := heap_alloc_new (w4.drewN m5) (.cells #[.slice (some ⟨g, 0, none⟩) zs.length cap] 22)
    rwa [show (w4.drewN m5).heap.size = R + 1 from hw4s] at this
  refine ⟨trivial, (callsIn_wide.2 (apart_any _ w.heap.size (R + 1) g zs.length cap 1 zs HZ.out hA (by omega) (by omega) (by simp; show _ ≤ w4.heap.size + 1; omega) rfl (owns_cut (World.ownsRow.alloc (w := w4.drewN m5) hog _)))).mono ?_⟩
  rintro e w6 ⟨⟨vA, rfl⟩, hm6⟩
  have hm6' : Mods (fun k => k = g) w4 w6 := ((Mods.refl (fun k => k = g) w4).drewN m5 |>.alloc (.cells #[.slice (some ⟨g, 0, none⟩) zs.length cap] 22)).trans hm6 (fun _ _ h => h) (fun _ _ h => h)
  have hP : PS (fun _ => False) w6 w1.heap.size b R C zs zs zs.length r (.slice rsl zs.length rcl) [] := by
    have ho6 := owns_kept ho4 hm6' (fun k hk f => by have := (ho4.lt k hk).1; omega)
    refine ⟨q4.frame hm6' (by omega) (fun k hk f => by have := hrR k hk; omega), block_mods hR4 hm6' (by omega), lst_of_owns ho6 (fun k hk f => ?_), fun e => by have := hrR _ e; omega, by omega, fun _ h => h.elim, fun _ h => by cases h⟩
    have := (ho4.lt k hk).1
    rcases f with f | f | f | f
    · omega
    · have := (hrR k f).2.2; omega
    · have := ho4OT k hk; omega
    · exact f.elim
  have hb6 : Below w.heap.size w w6 := hbw.trans (hm6'.below (by omega) (fun k hk e => by have := (ho.lt g rfl).1; omega))
  have hs6 := hm6'.size
  have hGL : g < w1.heap.size ∧ w.heap.size ≤ g := ⟨hgw, (ho.lt g rfl).1⟩
  clear hm6 hm6' hA hog ho4 hR4 q4 hKl hKh
  gi_wp2_with fail
  clear hlt2 hrR ho4OT hbR hw2R hs2 hw4s hs6
  have hbl : w.heap.size ≤ w1.heap.size := hs1
  refine wpIn_loop (fun a' w' => ∃ (ds : List Deferred) (u6 u13 u14 u15 u16 u17 u18 u19 u20 u21 u22 u60 u61 u62 u63 u64 u65 u66 u67 u68 u69 u70 u71 u72 u73 u75 u76 u77 u78 u79 u80 u81 u82 u83 u84 u85 u86 u87 u88 u89 u90 u91 u92 u93 u94 u95 u96 u97 u98 u99 u100 u101 u102 u103 u104 u105 u106 u107 u108 u109 u110 u111 u112 u113 u114 u115 u116 u117 u118 u119 u120 u121 u122 u123 u124 u125 u126 u127 u128 u129 u130 u131 u132 u133 u134 u135 u136 u137 u138 u139 u140 u141 u142 u143 u144 u145 u146 u147 u148 u149 u150 u151 u152 u153 u154 u155 u156 u157 u158 u159 u160 u161 : Value), (∃ k : Nat, k ≤ os.length ∧ u13 = .int .i64 k ∧ (∃ l r v Ds, PS (fun _ => False) w' w1.heap.size b R C l l (zs.length + k) r v Ds ∧ (Ds.Nodup ∧ ∀ D ∈ Ds, w.heap.size ≤ D) ∧ ds = mks Ds) ∧ Below w.heap.size w w') ∧ a' = { tmps := #[Value.int .i64 C, Value.slice ao zs.length zc, Value.slice so os.length sc, undef, undef, undef, u6, Value.slice (some { block := g, off := 0 }) zs.length cap, Value.pointer (some { block := b, off := 0 }), Value.int .i64 0, Value.pointer (some { block := R, off := 0 }), Value.int .i64 0, Value.bool true, u13, u14, u15, u16, u17, u18, u19, u20, u21, u22, Value.slice ao zs.length zc, Value.slice (some { block := g, off := 0 }) zs.length cap, Value.tuple #[Value.pointer (some { block := b, off := 0 }), Value.int .i64 0], Value.int .i64 C, Value.slice (some { block := g, off := 0 }) zs.length cap, Value.tuple #[Value.pointer (some { block := b, off := 0 }), Value.int .i64 0], Value.pointer (some { block := b, off := 0 }), Value.int .i64 0, Value.tuple #[Value.agg #[Value.int .i64 C, Value.slice rsl zs.length rcl], Value.int .i64 0], Value.int .i64 C, Value.slice ao zs.length zc, Value.tuple #[Value.agg #[Value.int .i64 C, Value.slice rsl zs.length rcl], Value.int .i64 0], Value.agg #[Value.int .i64 C, Value.slice rsl zs.length rcl], Value.int .i64 0, Value.slice (some { block := g, off := 0 }) zs.length cap, Value.slice ao zs.length zc, Value.bool true, Value.int .i64 0, Value.int .i64 0, Value.bool false, Value.bool false, Value.pointer (some { block := b, off := 0 }), Value.bool true, Value.int .i64 0, Value.bool true, Value.bool false, Value.bool false, Value.bool false, Value.bool true, Value.bool false, Value.bool false, Value.int .i64 0, Value.bool false, undef, Value.slice (some { block := g, off := 0 }) zs.length cap, Value.slice (some { block := R + 1, off := 0 }) 1 1, vA, u60, u61, u62, u63, u64, u65, u66, u67, u68, u69, u70, u71, u72, u73, undef, u75, u76, u77, u78, u79, u80, u81, u82, u83, u84, u85, u86, u87, u88, u89, u90, u91, u92, u93, u94, u95, u96, u97, u98, u99, u100, u101, u102, u103, u104, u105, u106, u107, u108, u109, u110, u111, u112, u113, u114, u115, u116, u117, u118, u119, u120, u121, u122, u123, u124, u125, u126, u127, u128, u129, u130, u131, u132, u133, u134, u135, u136, u137, u138, u139, u140, u141, u142, u143, u144, u145, u146, u147, u148, u149, u150, u151, u152, u153, u154, u155, u156, u157, u158, u159, u160, u161, undef, undef, undef, undef, undef, undef, undef, undef, undef, undef, undef, undef, undef, undef, undef, undef], defers := ds }) (fun a' _ => os.length - (intOf (a'.tmps.getD 13 undef)).toNat) ?atStart ?round
  case atStart =>
    refine ⟨[], ?_⟩
    repeat apply Exists.intro
    refine ⟨?_, rfl⟩
    exact ⟨0, Nat.zero_le _, rfl, ⟨zs, r, _, [], hP.mono (by omega), ⟨List.nodup_nil, fun _ h => by cases h⟩, rfl⟩, hb6⟩
  case round =>
    clear hP hb6 hl1 ho hbw hb1 Hnone Hcz hst hgw
    clear r
    intro _ wr hinv
    obtain ⟨ds, hinv⟩ := hinv
    obtain ⟨u6, hinv⟩ := hinv
    obtain ⟨u13, hinv⟩ := hinv
    obtain ⟨u14, hinv⟩ := hinv
    obtain ⟨u15, hinv⟩ := hinv
    obtain ⟨u16, hinv⟩ := hinv
    obtain ⟨u17, hinv⟩ := hinv
    obtain ⟨u18, hinv⟩ := hinv
    obtain ⟨u19, hinv⟩ := hinv
    obtain ⟨u20, hinv⟩ := hinv
    obtain ⟨u21, hinv⟩ := hinv
    obtain ⟨u22, hinv⟩ := hinv
    obtain ⟨u60, hinv⟩ := hinv
    obtain ⟨u61, hinv⟩ := hinv
    obtain ⟨u62, hinv⟩ := hinv
    obtain ⟨u63, hinv⟩ := hinv
    obtain ⟨u64, hinv⟩ := hinv
    obtain ⟨u65, hinv⟩ := hinv
    obtain ⟨u66, hinv⟩ := hinv
    obtain ⟨u67, hinv⟩ := hinv
    obtain ⟨u68, hinv⟩ := hinv
    obtain ⟨u69, hinv⟩ := hinv
    obtain ⟨u70, hinv⟩ := hinv
    obtain ⟨u71, hinv⟩ := hinv
    obtain ⟨u72, hinv⟩ := hinv
    obtain ⟨u73, hinv⟩ := hinv
    obtain ⟨u75, hinv⟩ := hinv
    obtain ⟨u76, hinv⟩ := hinv
    obtain ⟨u77, hinv⟩ := hinv
    obtain ⟨u78, hinv⟩ := hinv
    obtain ⟨u79, hinv⟩ := hinv
    obtain ⟨u80, hinv⟩ := hinv
    obtain ⟨u81, hinv⟩ := hinv
    obtain ⟨u82, hinv⟩ := hinv
    obtain ⟨u83, hinv⟩ := hinv
    obtain ⟨u84, hinv⟩ := hinv
    obtain ⟨u85, hinv⟩ := hinv
    obtain ⟨u86, hinv⟩ := hinv
    obtain ⟨u87, hinv⟩ := hinv
    obtain ⟨u88, hinv⟩ := hinv
    obtain ⟨u89, hinv⟩ := hinv
    obtain ⟨u90, hinv⟩ := hinv
    obtain ⟨u91, hinv⟩ := hinv
    obtain ⟨u92, hinv⟩ := hinv
    obtain ⟨u93, hinv⟩ := hinv
    obtain ⟨u94, hinv⟩ := hinv
    obtain ⟨u95, hinv⟩ := hinv
    obtain ⟨u96, hinv⟩ := hinv
    obtain ⟨u97, hinv⟩ := hinv
    obtain ⟨u98, hinv⟩ := hinv
    obtain ⟨u99, hinv⟩ := hinv
    obtain ⟨u100, hinv⟩ := hinv
    obtain ⟨u101, hinv⟩ := hinv
    obtain ⟨u102, hinv⟩ := hinv
    obtain ⟨u103, hinv⟩ := hinv
    obtain ⟨u104, hinv⟩ := hinv
    obtain ⟨u105, hinv⟩ := hinv
    obtain ⟨u106, hinv⟩ := hinv
    obtain ⟨u107, hinv⟩ := hinv
    obtain ⟨u108, hinv⟩ := hinv
    obtain ⟨u109, hinv⟩ := hinv
    obtain ⟨u110, hinv⟩ := hinv
    obtain ⟨u111, hinv⟩ := hinv
    obtain ⟨u112, hinv⟩ := hinv
    obtain ⟨u113, hinv⟩ := hinv
    obtain ⟨u114, hinv⟩ := hinv
    obtain ⟨u115, hinv⟩ := hinv
    obtain ⟨u116, hinv⟩ := hinv
    obtain ⟨u117, hinv⟩ := hinv
    obtain ⟨u118, hinv⟩ := hinv
    obtain ⟨u119, hinv⟩ := hinv
    obtain ⟨u120, hinv⟩ := hinv
    obtain ⟨u121, hinv⟩ := hinv
    obtain ⟨u122, hinv⟩ := hinv
    obtain ⟨u123, hinv⟩ := hinv
    obtain ⟨u124, hinv⟩ := hinv
    obtain ⟨u125, hinv⟩ := hinv
    obtain ⟨u126, hinv⟩ := hinv
    obtain ⟨u127, hinv⟩ := hinv
    obtain ⟨u128, hinv⟩ := hinv
    obtain ⟨u129, hinv⟩ := hinv
    obtain ⟨u130, hinv⟩ := hinv
    obtain ⟨u131, hinv⟩ := hinv
    obtain ⟨u132, hinv⟩ := hinv
    obtain ⟨u133, hinv⟩ := hinv
    obtain ⟨u134, hinv⟩ := hinv
    obtain ⟨u135, hinv⟩ := hinv
    obtain ⟨u136, hinv⟩ := hinv
    obtain ⟨u137, hinv⟩ := hinv
    obtain ⟨u138, hinv⟩ := hinv
    obtain ⟨u139, hinv⟩ := hinv
    obtain ⟨u140, hinv⟩ := hinv
    obtain ⟨u141, hinv⟩ := hinv
    obtain ⟨u142, hinv⟩ := hinv
    obtain ⟨u143, hinv⟩ := hinv
    obtain ⟨u144, hinv⟩ := hinv
    obtain ⟨u145, hinv⟩ := hinv
    obtain ⟨u146, hinv⟩ := hinv
    obtain ⟨u147, hinv⟩ := hinv
    obtain ⟨u148, hinv⟩ := hinv
    obtain ⟨u149, hinv⟩ := hinv
    obtain ⟨u150, hinv⟩ := hinv
    obtain ⟨u151, hinv⟩ := hinv
    obtain ⟨u152, hinv⟩ := hinv
    obtain ⟨u153, hinv⟩ := hinv
    obtain ⟨u154, hinv⟩ := hinv
    obtain ⟨u155, hinv⟩ := hinv
    obtain ⟨u156, hinv⟩ := hinv
    obtain ⟨u157, hinv⟩ := hinv
    obtain ⟨u158, hinv⟩ := hinv
    obtain ⟨u159, hinv⟩ := hinv
    obtain ⟨u160, hinv⟩ := hinv
    obtain ⟨u161, hinv⟩ := hinv
    obtain ⟨hrel, ha⟩ := hinv
    subst ha
    dsimp only
    obtain ⟨k, hk, rfl, ⟨l, r, v, Ds, hP, hDs, rfl⟩, hbw⟩ := hrel
    have hsz := hbw.size
    obtain ⟨va, vc, rfl⟩ := hP.lst
    have HL : Hid (l.length ≤ zs.length + k) := Lib.hid hP.1.lt.2.2.2.2.2
    have hwB : w1.heap.size ≤ wr.heap.size := by have := hP.lts; omega
    by_cases hlt : k < os.length
    · obtain ⟨bx, off, hso, hbx, c0, c1⟩ := HC.out k hlt
      subst hso
      generalize (os[k]?.getD (0, 0)).1 = a at c0
      generalize (os[k]?.getD (0, 0)).2 = X at c1
      have d0 := cell_later hbw c0
      have d1 := cell_later hbw c1
      have hki : (k : Int) < os.length := by omega
      have HN1 : Hid (zs.length + os.length < 27000000000000) := Lib.hid (by have := HZ.out; have := HN.out; omega)
      clear c0 c1
      have k0 := cells_row wr R hP.2.1 0 (.int .i64 C) rfl
      have k1 := cells_row wr R hP.2.1 1 (.slice va l.length vc) rfl
      by_cases ha0 : a = 0
      · subst ha0
        have k0a := ca (o := .cells #[.bool true] 4) (ca (o := .cells #[.int .i64 0, .int .i64 X] 48) k0)
        have k1a := ca (o := .cells #[.bool true] 4) (ca (o := .cells #[.int .i64 0, .int .i64 X] 48) k1)
        gi_wp2_with fail
        obtain ⟨w2, hw2⟩ : ∃ w2, w2 = (wr.alloc (.cells #[.int .i64 0, .int .i64 X] 48)).alloc (.cells #[.bool true] 4) := ⟨_, rfl⟩
        obtain ⟨hb2, hO, hG, hs2⟩ := boxes2 hw2
        rw [← hw2]
        obtain ⟨O, hOe⟩ : ∃ O, O = wr.heap.size := ⟨_, rfl⟩
        rw [← hOe] at hO hG hs2 ⊢
        have hOge : w.heap.size ≤ O := by omega
        have hOB : w1.heap.size ≤ O := by omega
        have hOR : O ≠ R ∧ O + 1 ≠ R ∧ O ≠ b ∧ O + 1 ≠ b ∧ (∀ k, r = some k → k < O) := ⟨by have := hP.lts; omega, by have := hP.lts; omega, by have := hP.lts; omega, by have := hP.lts; omega, fun k hk => by have := hP.lts.2.2.2 k hk; omega⟩
        have hP2 : PS (EB O) w2 w1.heap.size b R C l l (zs.length + k) r (.slice va l.length vc) Ds := hP.below hb2 fun k hk => ⟨by rcases hk with hk | hk <;> omega, fun h => by rcases hk with hk | hk <;> omega⟩
        have hbw2 := hbw.trans (hb2.mono hsz)
        have hR2 := hP2.2.1
        have k0 := cells_row w2 R hR2 0 (.int .i64 C) rfl
        have k1 := cells_row w2 R hR2 1 (.slice va l.length vc) rfl
        have e0 := cells_row w2 O hO 0 (.int .i64 0) rfl
        have e1 := cells_row w2 O hO 1 (.int .i64 X) rfl
        have g0 := cells_row w2 (O + 1) hG 0 (.bool true) rfl
        have gf := frozen_of_block hG 0
        have hs2' : w.heap.size ≤ w2.heap.size := by omega
        clear hP hw2 hbw hb2 d0 d1 k0a k1a hOe
        by_cases hf : (l.length : Int) < C
        · refine ⟨trivial, (callsIn_wide.2 (rput_list (l := l) hP2.2.2.1.has hf (by have := HL.out; have := HN1.out; omega))).mono ?_⟩
          rintro e w3 ⟨v3, rfl, o3, hb3⟩
          obtain ⟨hP4, hm4⟩ := hP2.ref_own hb3 o3
          obtain ⟨s3, c3, rfl⟩ := owns_slice o3
          simp only [List.length_append, List.length_singleton] at hP4 hm4
          have hO3 := block_mods hO (Mods.of_below hb3 (fun _ => False)) (fun h => h)
          have hG3 := block_mods hG (Mods.of_below hb3 (fun _ => False)) (fun h => h)
          have hR3 := block_mods hR2 (Mods.of_below hb3 (fun _ => False)) (fun h => h)
          have hG4 := block_mods hG hm4 hOR.2.1
          have hb4 := hbw2.trans (hP2.mods_below hm4 (fun k h => .inr (.inr (.inl h))) hbl (by omega) hs2')
          have hs4 := hb4.size
          have hs24 := hm4.size
          have f0 := frozen_of_block hR3 0
          have f1 := frozen_of_block hR3 1
          have k0 := cells_row w3 R hR3 0 (.int .i64 C) rfl
          have k1 := cells_row w3 R hR3 1 (.slice va l.length vc) rfl
          have e1 := cells_row w3 O hO3 1 (.int .i64 X) rfl
          have hORn : ¬ O = R := hOR.1
          clear o3 hm4 hb3 hO hG hP2
          gi_wp2_with fail
          refine ⟨trivial, (callsIn_wide.2 (iq_put_yes hP4.1 (by have := HN1.out; omega) (by omega) hf)).mono ?_⟩
          rintro e w5 ⟨rfl, r5, q5, hm5, hr5⟩
          have hP5 := hP4.queue q5 hm5 (fun k h => h) hr5
          have hG5 := block_mods hG4 hm5 (fun f => f.elim (fun f => hOR.2.2.2.1 f) (fun f => by have := hOR.2.2.2.2 _ f; omega))
          have hb5 := hb4.trans (hP4.mods_below hm5 (fun k h => h.elim .inl (fun h => .inr (.inl h))) hbl (by omega) hs4)
          have hs5 := hb5.size
          have g5 := cells_row w5 (O + 1) hG5 0 (.bool true) rfl
          have gf5 := frozen_of_block hG5 0
          have hm6 : Mods (fun k => k = O + 1) w5 (w5.setCell ⟨O + 1, 0, none⟩ (.bool true)) := (Mods.refl (fun k => k = O + 1) w5).setCell (p := ⟨O + 1, 0, none⟩) (fun _ => rfl) _
          have hP6 := hP5.frame hm6 (fun k h => .inr h)
          have hb6 := hb5.trans (hm6.below hs5 (fun k hk e => by omega))
          have hPf := hP6.below (E' := fun _ => False) (Below.refl _ _) (fun k h => h.elim)
          clear hP5 hG5 hb5 hm6 hP6
          gi_wp2
          refine ⟨⟨mks Ds, ?_⟩, ?_⟩
          · repeat apply Exists.intro
            refine ⟨?_, rfl⟩
            exact ⟨k + 1, by omega, by go_num, ⟨(l ++ [X]), _, _, Ds, hPf.mono (by omega), hDs, rfl⟩, hb6⟩
          · simp [intOf]; omega
        · refine ⟨trivial, (callsIn_wide.2 (rput_no w2 C X va l.length vc (by omega) (by have := HL.out; have := HN1.out; omega))).mono ?_⟩
          rintro e w3 ⟨rfl, hb3⟩
          obtain ⟨hP4, hm4⟩ := hP2.ref hb3 (hP2.2.2.1.mods (Mods.of_below hb3 (fun _ => False)) (fun _ _ h => h.elim) (fun _ _ h => h))
          have hO3 := block_mods hO (Mods.of_below hb3 (fun _ => False)) (fun h => h)
          have hG3 := block_mods hG (Mods.of_below hb3 (fun _ => False)) (fun h => h)
          have hR3 := block_mods hR2 (Mods.of_below hb3 (fun _ => False)) (fun h => h)
          have hG4 := block_mods hG hm4 hOR.2.1
          have hb4 := hbw2.trans (hP2.mods_below hm4 (fun k h => .inr (.inr (.inl h))) hbl (by omega) hs2')
          have hs4 := hb4.size
          have f0 := frozen_of_block hR3 0
          have f1 := frozen_of_block hR3 1
          have k0 := cells_row w3 R hR3 0 (.int .i64 C) rfl
          have k1 := cells_row w3 R hR3 1 (.slice va l.length vc) rfl
          have e1 := cells_row w3 O hO3 1 (.int .i64 X) rfl
          have hORn : ¬ O = R := hOR.1
          clear hm4 hb3 hO hG hP2
          gi_wp2_with fail
          refine ⟨trivial, (callsIn_wide.2 (iq_put_no hP4.1 (by have := HN1.out; omega) (by omega))).mono ?_⟩
          rintro e w5 ⟨rfl, m5, rfl⟩
          have hP5 := hP4.below (below_dr (n := m5) (Below.refl _ _)) (E' := EB O) (fun k hk => ⟨(hP4.2.2.2.2.2.1 k hk).1, fun _ => hk⟩)
          have hG5 : (((w3.setCell ⟨R, 0, none⟩ (.int .i64 C)).setCell ⟨R, 1, none⟩ (.slice va l.length vc)).drewN m5).heap[O + 1]? = some (.cells #[.bool true] 4 (0, 0)) := hG4
          have hb5 : Below w.heap.size w (((w3.setCell ⟨R, 0, none⟩ (.int .i64 C)).setCell ⟨R, 1, none⟩ (.slice va l.length vc)).drewN m5) := below_dr hb4
          obtain ⟨w5, hw5⟩ : ∃ w5, w5 = ((w3.setCell ⟨R, 0, none⟩ (.int .i64 C)).setCell ⟨R, 1, none⟩ (.slice va l.length vc)).drewN m5 := ⟨_, rfl⟩
          rw [← hw5] at hP5 hG5 hb5 ⊢
          clear hw5
          have hs5 := hb5.size
          have g5 := cells_row w5 (O + 1) hG5 0 (.bool true) rfl
          have gf5 := frozen_of_block hG5 0
          have hm6 : Mods (fun k => k = O + 1) w5 (w5.setCell ⟨O + 1, 0, none⟩ (.bool true)) := (Mods.refl (fun k => k = O + 1) w5).setCell (p := ⟨O + 1, 0, none⟩) (fun _ => rfl) _
          have hP6 := hP5.frame hm6 (fun k h => .inr h)
          have hb6 := hb5.trans (hm6.below hs5 (fun k hk e => by omega))
          have hPf := hP6.below (E' := fun _ => False) (Below.refl _ _) (fun k h => h.elim)
          clear hP5 hG5 hb5 hm6 hP6
          gi_wp2
          refine ⟨⟨mks Ds, ?_⟩, ?_⟩
          · repeat apply Exists.intro
            refine ⟨?_, rfl⟩
            exact ⟨k + 1, by omega, by go_num, ⟨l, _, _, Ds, hPf.mono (by omega), hDs, rfl⟩, hb6⟩
          · simp [intOf]; omega
      · have ha0b : (a == 0) = false := by simpa using ha0
        by_cases ha1 : a = 1
        · subst ha1
          have k0a := ca (o := .cells #[.bool true] 4) (ca (o := .cells #[.int .i64 1, .int .i64 X] 48) k0)
          have k1a := ca (o := .cells #[.bool true] 4) (ca (o := .cells #[.int .i64 1, .int .i64 X] 48) k1)
          gi_wp2_with fail
          obtain ⟨w2, hw2⟩ : ∃ w2, w2 = (wr.alloc (.cells #[.int .i64 1, .int .i64 X] 48)).alloc (.cells #[.bool true] 4) := ⟨_, rfl⟩
          obtain ⟨hb2, hO, hG, hs2⟩ := boxes2 hw2
          rw [← hw2]
          obtain ⟨O, hOe⟩ : ∃ O, O = wr.heap.size := ⟨_, rfl⟩
          rw [← hOe] at hO hG hs2 ⊢
          have hOge : w.heap.size ≤ O := by omega
          have hOB : w1.heap.size ≤ O := by omega
          have hOR : O ≠ R ∧ O + 1 ≠ R ∧ O ≠ b ∧ O + 1 ≠ b ∧ (∀ k, r = some k → k < O) := ⟨by have := hP.lts; omega, by have := hP.lts; omega, by have := hP.lts; omega, by have := hP.lts; omega, fun k hk => by have := hP.lts.2.2.2 k hk; omega⟩
          have hP2 : PS (EB O) w2 w1.heap.size b R C l l (zs.length + k) r (.slice va l.length vc) Ds := hP.below hb2 fun k hk => ⟨by rcases hk with hk | hk <;> omega, fun h => by rcases hk with hk | hk <;> omega⟩
          have hbw2 := hbw.trans (hb2.mono hsz)
          have hR2 := hP2.2.1
          have k0 := cells_row w2 R hR2 0 (.int .i64 C) rfl
          have k1 := cells_row w2 R hR2 1 (.slice va l.length vc) rfl
          have e0 := cells_row w2 O hO 0 (.int .i64 1) rfl
          have e1 := cells_row w2 O hO 1 (.int .i64 X) rfl
          have g0 := cells_row w2 (O + 1) hG 0 (.bool true) rfl
          have gf := frozen_of_block hG 0
          have hs2' : w.heap.size ≤ w2.heap.size := by omega
          clear hP hw2 hbw hb2 d0 d1 k0a k1a hOe
          cases l with
          | nil =>
            refine ⟨trivial, (callsIn_wide.2 (iq_take_none hP2.1 (by have := HN1.out; omega))).mono ?_⟩
            rintro e w3 ⟨rfl, m3, rfl⟩
            have hP4 : PS (EB O) (w2.drewN m3) w1.heap.size b R C [] [] (zs.length + k) r (.slice va 0 vc) Ds := hP2.below (below_dr (n := m3) (Below.refl _ _)) (fun k hk => ⟨(hP2.2.2.2.2.2.1 k hk).1, fun _ => hk⟩)
            have hO4 : (w2.drewN m3).heap[O]? = _ := hO
            have hG4 : (w2.drewN m3).heap[O + 1]? = _ := hG
            have hb4 : Below w.heap.size w (w2.drewN m3) := below_dr hbw2
            have hs4 : w.heap.size ≤ (w2.drewN m3).heap.size := hs2'
            have k0 := cells_row (w2.drewN m3) R hP4.2.1 0 (.int .i64 C) rfl
            have k1 := cells_row (w2.drewN m3) R hP4.2.1 1 (.slice va 0 vc) rfl
            gi_wp2_with fail
            refine ⟨trivial, (callsIn_wide.2 (rtake_nil _ C va vc)).mono ?_⟩
            rintro e w3 ⟨rfl, hb3⟩
            obtain ⟨hP5, hm5⟩ := hP4.ref hb3 (hP4.2.2.1.mods (Mods.of_below hb3 (fun _ => False)) (fun _ _ h => h.elim) (fun _ _ h => h))
            have hO3 := block_mods hO4 (Mods.of_below hb3 (fun _ => False)) (fun h => h)
            have hG3 := block_mods hG4 (Mods.of_below hb3 (fun _ => False)) (fun h => h)
            have hR3 := block_mods hP4.2.1 (Mods.of_below hb3 (fun _ => False)) (fun h => h)
            have hG5 := block_mods hG4 hm5 hOR.2.1
            have hb5 := hb4.trans (hP4.mods_below hm5 (fun k h => .inr (.inr (.inl h))) hbl (by omega) hs4)
            have f0 := frozen_of_block hR3 0
            have f1 := frozen_of_block hR3 1
            have k0 := cells_row w3 R hR3 0 (.int .i64 C) rfl
            have k1 := cells_row w3 R hR3 1 (.slice va 0 vc) rfl
            have gg0 := cells_row w3 (O + 1) hG3 0 (.bool true) rfl
            have ggf := frozen_of_block hG3 0
            have hORn : ¬ O + 1 = R := hOR.2.1
            have hORm : ¬ R = O + 1 := fun e => hOR.2.1 e.symm
            have hm6 : Mods (fun k => k = O + 1) ((w3.setCell ⟨R, 0, none⟩ (.int .i64 C)).setCell ⟨R, 1, none⟩ (.slice va 0 vc)) (((w3.setCell ⟨R, 0, none⟩ (.int .i64 C)).setCell ⟨R, 1, none⟩ (.slice va 0 vc)).setCell ⟨O + 1, 0, none⟩ (.bool true)) := (Mods.refl (fun k => k = O + 1) _).setCell (p := ⟨O + 1, 0, none⟩) (fun _ => rfl) _
            have hP6 := hP5.frame hm6 (fun k h => .inr h)
            have hs5 := hb5.size
            have hb6 := hb5.trans (hm6.below hs5 (fun k hk e => by omega))
            have hPf := hP6.below (E' := fun _ => False) (Below.refl _ _) (fun k h => h.elim)
            clear hP5 hG5 hb5 hm6 hP6 hm5 hb3 hP4 hO4 hG4 hb4 hP2 hO hG
            gi_wp2
            refine ⟨⟨mks Ds, ?_⟩, ?_⟩
            · repeat apply Exists.intro
              refine ⟨?_, rfl⟩
              exact ⟨k + 1, by omega, by go_num, ⟨[], _, _, Ds, hPf.mono (by omega), hDs, rfl⟩, hb6⟩
            · simp [intOf]; omega
          | cons y l =>
            refine ⟨trivial, (callsIn_wide.2 (iq_take_cons hP2.1 (by have := HN1.out; omega) (by omega))).mono ?_⟩
            rintro e w4 ⟨rfl, r4, q4, hm4, hr4⟩
            have hP4 := hP2.queue q4 hm4 (fun k h => .inl h) hr4
            have hO4 := block_mods hO hm4 hOR.2.2.1
            have hG4 := block_mods hG hm4 hOR.2.2.2.1
            have hb4 := hbw2.trans (hP2.mods_below hm4 (fun k h => .inl h) hbl (by omega) hs2')
            have hs4 := hb4.size
            have k0 := cells_row w4 R hP4.2.1 0 (.int .i64 C) rfl
            have k1 := cells_row w4 R hP4.2.1 1 (.slice va (l.length + 1) vc) rfl
            gi_wp2_with fail
            refine ⟨trivial, (callsIn_wide.2 (rtake_list (l := l) hP4.2.2.1 (by have := HL.out; have := HN1.out; simp at *; omega))).mono ?_⟩
            rintro e w3 ⟨v3, rfl, o3, hb3⟩
            obtain ⟨hP5, hm5⟩ := hP4.ref hb3 o3
            obtain ⟨s3, c3, rfl⟩ := hP5.lst
            clear o3 k0 k1
            have hO3 := block_mods hO4 (Mods.of_below hb3 (fun _ => False)) (fun h => h)
            have hG3 := block_mods hG4 (Mods.of_below hb3 (fun _ => False)) (fun h => h)
            have hR3 := block_mods hP4.2.1 (Mods.of_below hb3 (fun _ => False)) (fun h => h)
            have hG5 := block_mods hG4 hm5 hOR.2.1
            have hb5 := hb4.trans (hP4.mods_below hm5 (fun k h => .inr (.inr (.inl h))) hbl (by omega) hs4)
            have f0 := frozen_of_block hR3 0
            have f1 := frozen_of_block hR3 1
            have k0 := cells_row w3 R hR3 0 (.int .i64 C) rfl
            have k1 := cells_row w3 R hR3 1 (.slice va (l.length + 1) vc) rfl
            have gg0 := cells_row w3 (O + 1) hG3 0 (.bool true) rfl
            have ggf := frozen_of_block hG3 0
            have hORn : ¬ O + 1 = R := hOR.2.1
            have hORm : ¬ R = O + 1 := fun e => hOR.2.1 e.symm
            have hm6 : Mods (fun k => k = O + 1) ((w3.setCell ⟨R, 0, none⟩ (.int .i64 C)).setCell ⟨R, 1, none⟩ (.slice s3 l.length c3)) (((w3.setCell ⟨R, 0, none⟩ (.int .i64 C)).setCell ⟨R, 1, none⟩ (.slice s3 l.length c3)).setCell ⟨O + 1, 0, none⟩ (.bool true)) := (Mods.refl (fun k => k = O + 1) _).setCell (p := ⟨O + 1, 0, none⟩) (fun _ => rfl) _
            have hP6 := hP5.frame hm6 (fun k h => .inr h)
            have hs5 := hb5.size
            have hb6 := hb5.trans (hm6.below hs5 (fun k hk e => by omega))
            have hPf := hP6.below (E' := fun _ => False) (Below.refl _ _) (fun k h => h.elim)
            clear hP5 hG5 hb5 hm6 hP6 hm5 hb3 hP4 hO4 hG4 hb4 hP2 hO hG
            gi_wp2
            refine ⟨⟨mks Ds, ?_⟩, ?_⟩
            · repeat apply Exists.intro
              refine ⟨?_, rfl⟩
              exact ⟨k + 1, by omega, by go_num, ⟨l, _, _, Ds, hPf.mono (by omega), hDs, rfl⟩, hb6⟩
            · simp [intOf]; omega
        · have ha1b : (a == 1) = false := by simpa using ha1
          by_cases ha2 : a = 2
          · subst ha2
            have k0a := ca (o := .cells #[.bool true] 4) (ca (o := .cells #[.int .i64 2, .int .i64 X] 48) k0)
            have k1a := ca (o := .cells #[.bool true] 4) (ca (o := .cells #[.int .i64 2, .int .i64 X] 48) k1)
            gi_wp2_with fail
            obtain ⟨w2, hw2⟩ : ∃ w2, w2 = (wr.alloc (.cells #[.int .i64 2, .int .i64 X] 48)).alloc (.cells #[.bool true] 4) := ⟨_, rfl⟩
            obtain ⟨hb2, hO, hG, hs2⟩ := boxes2 hw2
            rw [← hw2]
            obtain ⟨O, hOe⟩ : ∃ O, O = wr.heap.size := ⟨_, rfl⟩
            rw [← hOe] at hO hG hs2 ⊢
            have hOge : w.heap.size ≤ O := by omega
            have hOB : w1.heap.size ≤ O := by omega
            have hOR : O ≠ R ∧ O + 1 ≠ R ∧ O ≠ b ∧ O + 1 ≠ b ∧ (∀ k, r = some k → k < O) := ⟨by have := hP.lts; omega, by have := hP.lts; omega, by have := hP.lts; omega, by have := hP.lts; omega, fun k hk => by have := hP.lts.2.2.2 k hk; omega⟩
            have hP2 : PS (EB O) w2 w1.heap.size b R C l l (zs.length + k) r (.slice va l.length vc) Ds := hP.below hb2 fun k hk => ⟨by rcases hk with hk | hk <;> omega, fun h => by rcases hk with hk | hk <;> omega⟩
            have hbw2 := hbw.trans (hb2.mono hsz)
            have hR2 := hP2.2.1
            have k0 := cells_row w2 R hR2 0 (.int .i64 C) rfl
            have k1 := cells_row w2 R hR2 1 (.slice va l.length vc) rfl
            have e0 := cells_row w2 O hO 0 (.int .i64 2) rfl
            have e1 := cells_row w2 O hO 1 (.int .i64 X) rfl
            have g0 := cells_row w2 (O + 1) hG 0 (.bool true) rfl
            have gf := frozen_of_block hG 0
            have hs2' : w.heap.size ≤ w2.heap.size := by omega
            clear hP hw2 hbw hb2 d0 d1 k0a k1a hOe
            refine wpIn_wide.2 (wp_region_soft (fun w' => w'.cell? ⟨R, 1, none⟩ = some (.slice va l.length vc) ∧ Below w2.heap.size w2 w' ∧ PS (EB O) w' w1.heap.size b R C l l (zs.length + k) r (.slice va l.length vc) Ds ∧ w'.heap[O + 1]? = some (.cells #[.bool true] 4 (0, 0))) [0, 1, 2, 3, 4, 5] [6] (by kernel_rfl) (by kernel_rfl) rfl ⟨k1, (Below.refl _ _).drew, hP2, hG⟩ ?_)
            simp only [pickOps, List.flatMap_cons, List.flatMap_nil, List.drop_succ_cons, List.drop_zero, List.take_succ_cons, List.take_zero, List.cons_append, List.nil_append, List.append_nil]
            repeat (first
              | (refine wpHead_skip (by rfl) ?_; (try simp only [Act.put, List.setIfInBounds_toArray, List.set_cons_zero, List.set_cons_succ]))
              | (refine wpHead_val ?_ (by rfl) ?_ ?_; rotate_left; (intro wz hz; (try dsimp only at hz); (first | (go_simp; done) | (go_simp; with_reducible rfl))); (try simp only [Act.put, List.setIfInBounds_toArray, List.set_cons_zero, List.set_cons_succ])))
            refine wpHead_call (.int .i64 (l.length : Int)) 23 #[.pointer (some ⟨b, 0, none⟩)] (by rfl) (fun wz => by go_simp) (fun wz hz => ?_) ?_
            · refine (iq_len hz.2.2.1.1 (by have := HN1.out; omega)).mono ?_
              rintro e wy ⟨rfl, m, rfl⟩
              exact ⟨rfl, hz.1, below_dr hz.2.1, hz.2.2.1.below (below_dr (n := m) (Below.refl _ _)) (fun k hk => ⟨(hz.2.2.1.2.2.2.2.2.1 k hk).1, fun _ => hk⟩), hz.2.2.2⟩
            simp only [Act.put, List.setIfInBounds_toArray, List.set_cons_zero, List.set_cons_succ]
            repeat (first
              | (refine wpHead_skip (by rfl) ?_; (try simp only [Act.put, List.setIfInBounds_toArray, List.set_cons_zero, List.set_cons_succ]))
              | (refine wpHead_val ?_ (by rfl) ?_ ?_; rotate_left; (intro wz hz; (try dsimp only at hz); (first | (go_simp; done) | (go_simp; with_reducible rfl))); (try simp only [Act.put, List.setIfInBounds_toArray, List.set_cons_zero, List.set_cons_succ])))
            refine wpHead_nil ?_
            intro w3 hS3
            obtain ⟨_, hb3, hP3, hG3⟩ := hS3
            have g0 := cells_row w3 (O + 1) hG3 0 (.bool true) rfl
            have gf := frozen_of_block hG3 0
            have hs3 := hb3.size
            have hm6 : Mods (fun k => k = O + 1) w3 (w3.setCell ⟨O + 1, 0, none⟩ (.bool true)) := (Mods.refl (fun k => k = O + 1) w3).setCell (p := ⟨O + 1, 0, none⟩) (fun _ => rfl) _
            have hP6 := hP3.frame hm6 (fun k h => .inr h)
            have hb6 := (hbw2.trans (hb3.mono hs2')).trans (hm6.below (by omega) (fun k hk e => by omega))
            have hPf := hP6.below (E' := fun _ => False) (Below.refl _ _) (fun k h => h.elim)
            clear hP6 hm6 hP3 hG3 hb3 hP2 hO hG
            go_wp2
            gi_wp2
            refine ⟨⟨mks Ds, ?_⟩, ?_⟩
            · repeat apply Exists.intro
              refine ⟨?_, rfl⟩
              exact ⟨k + 1, by omega, by go_num, ⟨l, _, _, Ds, hPf.mono (by omega), hDs, rfl⟩, hb6⟩
            · simp [intOf]; omega
          · have ha2b : (a == 2) = false := by simpa using ha2
            by_cases ha3 : a = 3
            · subst ha3
              have k0a := ca (o := .cells #[.bool true] 4) (ca (o := .cells #[.int .i64 3, .int .i64 X] 48) k0)
              have k1a := ca (o := .cells #[.bool true] 4) (ca (o := .cells #[.int .i64 3, .int .i64 X] 48) k1)
              gi_wp2_with fail
              obtain ⟨w2, hw2⟩ : ∃ w2, w2 = (wr.alloc (.cells #[.int .i64 3, .int .i64 X] 48)).alloc (.cells #[.bool true] 4) := ⟨_, rfl⟩
              obtain ⟨hb2, hO, hG, hs2⟩ := boxes2 hw2
              rw [← hw2]
              obtain ⟨O, hOe⟩ : ∃ O, O = wr.heap.size := ⟨_, rfl⟩
              rw [← hOe] at hO hG hs2 ⊢
              have hOge : w.heap.size ≤ O := by omega
              have hOB : w1.heap.size ≤ O := by omega
              have hOR : O ≠ R ∧ O + 1 ≠ R ∧ O ≠ b ∧ O + 1 ≠ b ∧ (∀ k, r = some k → k < O) := ⟨by have := hP.lts; omega, by have := hP.lts; omega, by have := hP.lts; omega, by have := hP.lts; omega, fun k hk => by have := hP.lts.2.2.2 k hk; omega⟩
              have hP2 : PS (EB O) w2 w1.heap.size b R C l l (zs.length + k) r (.slice va l.length vc) Ds := hP.below hb2 fun k hk => ⟨by rcases hk with hk | hk <;> omega, fun h => by rcases hk with hk | hk <;> omega⟩
              have hbw2 := hbw.trans (hb2.mono hsz)
              have hR2 := hP2.2.1
              have k0 := cells_row w2 R hR2 0 (.int .i64 C) rfl
              have k1 := cells_row w2 R hR2 1 (.slice va l.length vc) rfl
              have e0 := cells_row w2 O hO 0 (.int .i64 3) rfl
              have e1 := cells_row w2 O hO 1 (.int .i64 X) rfl
              have g0 := cells_row w2 (O + 1) hG 0 (.bool true) rfl
              have gf := frozen_of_block hG 0
              have hs2' : w.heap.size ≤ w2.heap.size := by omega
              clear hP hw2 hbw hb2 d0 d1 k0a k1a hOe
              refine wpIn_wide.2 (wp_region_soft (fun w' => w'.cell? ⟨R, 0, none⟩ = some (.int .i64 C) ∧ w'.cell? ⟨R, 1, none⟩ = some (.slice va l.length vc) ∧ Below w2.heap.size w2 w' ∧ PS (EB O) w' w1.heap.size b R C l l (zs.length + k) r (.slice va l.length vc) Ds ∧ w'.heap[O + 1]? = some (.cells #[.bool true] 4 (0, 0))) [0, 1, 2, 3, 4] [5] (by kernel_rfl) (by kernel_rfl) rfl ⟨k0, k1, (Below.refl _ _).drew, hP2, hG⟩ ?_)
              simp only [pickOps, List.flatMap_cons, List.flatMap_nil, List.drop_succ_cons, List.drop_zero, List.take_succ_cons, List.take_zero, List.cons_append, List.nil_append, List.append_nil]
              repeat (first
                | (refine wpHead_skip (by rfl) ?_; (try simp only [Act.put, List.setIfInBounds_toArray, List.set_cons_zero, List.set_cons_succ]))
                | (refine wpHead_val ?_ (by rfl) ?_ ?_; rotate_left; (intro wz hz; (try dsimp only at hz); (first | (go_simp; done) | (go_simp; with_reducible rfl))); (try simp only [Act.put, List.setIfInBounds_toArray, List.set_cons_zero, List.set_cons_succ])))
              refine wpHead_call (.int .i64 (max 0 (C - (l.length : Int)))) 24 #[.pointer (some ⟨b, 0, none⟩)] (by rfl) (fun wz => by go_simp) (fun wz hz => ?_) ?_
              · obtain ⟨z0, z1, z2, z3, z4⟩ := hz
                refine (iq_room z3.1 (by have := HN1.out; omega)).mono ?_
                rintro e wy ⟨rfl, m, rfl⟩
                exact ⟨rfl, z0, z1, below_dr z2, z3.below (below_dr (n := m) (Below.refl _ _)) (fun k hk => ⟨(z3.2.2.2.2.2.1 k hk).1, fun _ => hk⟩), z4⟩
              simp only [Act.put, List.setIfInBounds_toArray, List.set_cons_zero, List.set_cons_succ]
              repeat (first
                | (refine wpHead_skip (by rfl) ?_; (try simp only [Act.put, List.setIfInBounds_toArray, List.set_cons_zero, List.set_cons_succ]))
                | (refine wpHead_val ?_ (by rfl) ?_ ?_; rotate_left; (intro wz hz; (try dsimp only at hz); (first | (go_simp; done) | (go_simp; with_reducible rfl))); (try simp only [Act.put, List.setIfInBounds_toArray, List.set_cons_zero, List.set_cons_succ])))
              refine wpHead_call (.int .i64 (max 0 (C - (l.length : Int)))) 25 #[.agg #[.int .i64 C, .slice va l.length vc]] (by rfl) (fun wz => by go_simp) (fun wz hz => ?_) ?_
              · obtain ⟨z0, z1, z2, z3, z4⟩ := hz
                refine (rroom_any wz C va l.length vc hC hC' (by have := HL.out; have := HN1.out; omega)).mono ?_
                rintro e wy ⟨rfl, hby⟩
                exact ⟨rfl, cell_later hby z0, cell_later hby z1, z2.trans (hby.mono z2.size), z3.below hby (fun k hk => ⟨Nat.lt_of_lt_of_le (z3.2.2.2.2.2.1 k hk).1 hby.size, fun _ => hk⟩), block_mods z4 (Mods.of_below hby (fun _ => False)) (fun h => h)⟩
              simp only [Act.put, List.setIfInBounds_toArray, List.set_cons_zero, List.set_cons_succ]
              repeat (first
                | (refine wpHead_skip (by rfl) ?_; (try simp only [Act.put, List.setIfInBounds_toArray, List.set_cons_zero, List.set_cons_succ]))
                | (refine wpHead_val ?_ (by rfl) ?_ ?_; rotate_left; (intro wz hz; (try dsimp only at hz); (first | (go_simp; done) | (go_simp; with_reducible rfl))); (try simp only [Act.put, List.setIfInBounds_toArray, List.set_cons_zero, List.set_cons_succ])))
              refine wpHead_nil ?_
              intro w3 hS3
              obtain ⟨_, _, hb3, hP3, hG3⟩ := hS3
              have g0 := cells_row w3 (O + 1) hG3 0 (.bool true) rfl
              have gf := frozen_of_block hG3 0
              have hs3 := hb3.size
              have hm6 : Mods (fun k => k = O + 1) w3 (w3.setCell ⟨O + 1, 0, none⟩ (.bool true)) := (Mods.refl (fun k => k = O + 1) w3).setCell (p := ⟨O + 1, 0, none⟩) (fun _ => rfl) _
              have hP6 := hP3.frame hm6 (fun k h => .inr h)
              have hb6 := (hbw2.trans (hb3.mono hs2')).trans (hm6.below (by omega) (fun k hk e => by omega))
              have hPf := hP6.below (E' := fun _ => False) (Below.refl _ _) (fun k h => h.elim)
              clear hP6 hm6 hP3 hG3 hb3 hP2 hO hG
              go_wp2
              gi_wp2
              refine ⟨⟨mks Ds, ?_⟩, ?_⟩
              · repeat apply Exists.intro
                refine ⟨?_, rfl⟩
                exact ⟨k + 1, by omega, by go_num, ⟨l, _, _, Ds, hPf.mono (by omega), hDs, rfl⟩, hb6⟩
              · simp [intOf]; omega
            · have ha3b : (a == 3) = false := by simpa using ha3
              gi_wp2_with fail
              obtain ⟨w2, hw2⟩ : ∃ w2, w2 = ((wr.alloc (.cells #[.int .i64 a, .int .i64 X] 48)).alloc (.cells #[.bool true] 4)).alloc (.cells #[.int .i64 0] 3) := ⟨_, rfl⟩
              obtain ⟨hb2, hO, hG, hN, hs2⟩ := boxes3 hw2
              rw [← hw2]
              obtain ⟨O, hOe⟩ : ∃ O, O = wr.heap.size := ⟨_, rfl⟩
              rw [← hOe] at hO hG hN hs2 ⊢
              have hOge : w.heap.size ≤ O := by omega
              have hOB : w1.heap.size ≤ O := by omega
              have hbO : b < O := by have := hP.lts; omega
              have hRO : R < O := by have := hP.lts; omega
              have hDO : ∀ D ∈ Ds, D < O := fun D hD => by have := block_lt (hP.2.2.2.2.2.2 D hD).1; omega
              have hP2 : PS (EB3 O) w2 w1.heap.size b R C l l (zs.length + k) r (.slice va l.length vc) Ds := hP.below hb2 fun k hk => ⟨by rcases hk with hk | hk | hk <;> omega, fun h => by rcases hk with hk | hk | hk <;> omega⟩
              have hbw2 := hbw.trans (hb2.mono hsz)
              have hs2' : w.heap.size ≤ w2.heap.size := by omega
              clear hP hw2 hbw hb2 d0 d1 hOe k0 k1
              refine ⟨trivial, (callsIn_wide.2 (all_any _ _)).mono ?_⟩
              rintro e w' ⟨rfl, rfl⟩
              gi_wp2_with fail
              have hA := heap_alloc_new w2 (.cells #[.pointer (some ⟨b, 0, none⟩)] 37)
              have hO := block_alloc hO (.cells #[.pointer (some ⟨b, 0, none⟩)] 37)
              have hG := block_alloc hG (.cells #[.pointer (some ⟨b, 0, none⟩)] 37)
              have hN := block_alloc hN (.cells #[.pointer (some ⟨b, 0, none⟩)] 37)
              have hb5 : Below w2.heap.size w2 (w2.alloc (.cells #[.pointer (some ⟨b, 0, none⟩)] 37)) := (Below.refl _ _).alloc (Nat.le_refl _) _
              have hP5 := hP2.below hb5 (E' := EB3 O) (fun k hk => ⟨by rcases hk with hk | hk | hk <;> simp <;> omega, fun _ => hk⟩)
              have hbw5 := hbw2.trans (hb5.mono hs2')
              have hs5a : (w2.alloc (.cells #[.pointer (some ⟨b, 0, none⟩)] 37)).heap.size ≤ O + 4 := by simp; omega
              have hs5b : O + 4 ≤ (w2.alloc (.cells #[.pointer (some ⟨b, 0, none⟩)] 37)).heap.size := by simp; omega
              rw [hs2] at hA
              generalize hw5 : w2.alloc (.cells #[.pointer (some ⟨b, 0, none⟩)] 37) = w5 at *
              clear hw5 hb5 hP2 hbw2
              have bA : Boxed w5 (O + 3) 37 (.pointer (some ⟨b, 0, none⟩)) := hA
              have bN : Boxed w5 (O + 2) 3 (.int .i64 0) := hN
              have hGK : GOk (O + 3) (fun _ k => k = O + 1 ∨ k = O + 2) := fun _ _ _ _ h => h
              refine wpIn_range_break rfl (by omega) (gf := 30) (lb := #[.pointer (some ⟨O + 3, 0, none⟩)]) rfl trivial (enters_of Try.func30 (by kernel_rfl) rfl)
                (all_stops (n := 4) (by omega) hP5.1 (by have := HN1.out; omega) hGK (by omega) (fun k hk => by rcases hk with hk | hk <;> omega) bA.cell) KpG.trans (fun W l o o' hl h ho _ => KpG.putObj hGK W l o o' (by omega) h ho) (Below.refl _ _) (fun _ => rfl)
                (fun (pre : List Int) W => Boxed W (O + 2) 3 (.int .i64 pre.length) ∧ Mods (fun k => k = O + 2) w5 W)
                (fun pre W => ((pre.length : Int) = X ∧ Boxed W (O + 2) 3 (.int .i64 pre.length) ∧ Mods (fun k => k = O + 2) w5 W) ∨ ¬ pre <+: l)
                ?own ?ownx ⟨bN, Mods.refl _ _⟩ ?a1 ?assign ?body ?rest
              case own =>
                rintro s X' Y row ⟨h1, h2⟩ hg hrow
                exact ⟨h1.kept hg (fun e => by have := (hrow _ e.symm).1; omega), h2.grown hg (fun k hk hlt => by have := (hrow k hk).1; omega)⟩
              case ownx =>
                rintro s X' Y row (⟨h3, h1, h2⟩ | h) hg hrow
                · exact .inl ⟨h3, h1.kept hg (fun e => by have := (hrow _ e.symm).1; omega), h2.grown hg (fun k hk hlt => by have := (hrow k hk).1; omega)⟩
                · exact .inr h
              case assign =>
                intro l' x W K hK
                gi_wp2
                exact hK
              case body =>
                rintro l' pre x W ⟨h1, h2⟩ hlt'
                have hPW := hP5.frame h2 (fun k h => .inr (.inr h))
                have k1 := cells_row W R hPW.2.1 1 (.slice va l.length vc) rfl
                have e1 := cells_row W O (block_mods hO h2 (by omega)) 1 (.int .i64 X) rfl
                have hGW := block_mods hG h2 (by omega)
                have g0 := cells_row W (O + 1) hGW 0 (.bool true) rfl
                have gf := frozen_of_block hGW 0
                have c1 := h1.cell
                have f1 := h1.frozen
                rcases hPW.2.2.1 with ⟨rfl, _⟩ | ⟨hp, bb, boff, cc, hv, hbb, _, hlc, hcl⟩
                · simp at hlt'
                cases hv
                have hcell := hcl pre.length hlt'
                have hlti : (pre.length : Int) < l.length := by omega
                have hgei : ¬ (l.length : Int) ≤ pre.length := by omega
                have hget : l[pre.length]?.getD 0 = l[pre.length] := by simp [hlt']
                rw [hget] at hcell
                have Hl := Lib.hid hlt'
                have hnn : (pre.length : Int) ≤ 4611686018427387904 := by have := HL.out; have := HN1.out; omega
                clear hget hcl hPW hGW
                generalize hy : l[pre.length] = y at hcell
                have Hy := Lib.hid hy
                clear hy
                by_cases hxy : x = y
                · subst hxy
                  have hB := h1.set (.int .i64 ((pre ++ [x]).length : Int))
                  have hM := h2.setCell (p := ⟨O + 2, 0, none⟩) (fun _ => rfl) (.int .i64 ((pre ++ [x]).length : Int))
                  have hKo := (KeepsOthers.setCell W ⟨O + 2, 0, none⟩ (.int .i64 ((pre ++ [x]).length : Int))).from w5.heap.size
                  have hKg : KpG (fun _ k => k = O + 1 ∨ k = O + 2) W (W.setCell ⟨O + 2, 0, none⟩ (.int .i64 ((pre ++ [x]).length : Int))) :=
                    ⟨by rw [size_setCell']; exact Nat.le_refl _, fun k cs t fr hk hn => Below.heap_setCell _ _ _ k (fun e => hn (.inr e)), fun k hk g => g⟩
                  have e : ((pre ++ [x]).length : Int) = (pre.length : Int) + 1 := by simp
                  rw [e] at hB hM hKo hKg
                  have HE := Lib.hid e
                  clear e h1 h2
                  gi_wp2
                  · rename_i hst
                    exact ⟨hKo, rfl, .inl ⟨by rw [HE.out]; simpa using hst, by rw [HE.out]; exact hB, hM⟩⟩
                  · exact ⟨hKo, hKg, by rw [HE.out]; exact hB, hM⟩
                · have hKo := (KeepsOthers.setCell W ⟨O + 1, 0, none⟩ (.bool false)).from w5.heap.size
                  clear h1 h2
                  gi_wp2
                  refine ⟨hKo, rfl, .inr fun hpf => hxy ?_⟩
                  have hx := List.prefix_iff_getElem?.1 hpf pre.length (by simp)
                  rw [← Hy.out]
                  simp [Hl.out] at hx
                  exact hx.symm
              case rest =>
                intro D ys W hD hor hK
                have ⟨hn, h1, h2⟩ : (ys.length = l.length ∨ (ys.length : Int) = X) ∧ Boxed W (O + 2) 3 (.int .i64 ys.length) ∧ Mods (fun k => k = O + 2) w5 W := by
                  rcases hor with ⟨rfl, h1, h2⟩ | ⟨hpf, ⟨h3, h1, h2⟩ | hbad⟩
                  · exact ⟨.inl rfl, h1, h2⟩
                  · exact ⟨.inr h3, h1, h2⟩
                  · exact absurd hpf hbad
                have hWs := h2.size
                have hPW := (hP5.frame h2 (fun k h => .inr (.inr h))).mark hK (fun e => by rcases e with e | e | e <;> omega)
                have hDs' : (D :: Ds).Nodup ∧ ∀ x ∈ D :: Ds, w.heap.size ≤ x := ⟨List.nodup_cons.2 ⟨fun h => by have := hDO D h; omega, hDs.1⟩, fun x hx => by rcases List.mem_cons.1 hx with rfl | hx; omega; exact hDs.2 x hx⟩
                have hbW := hbw5.trans (h2.below (by omega) (fun k hk e => by omega))
                have k1 := cells_row W R hPW.2.1 1 (.slice va l.length vc) rfl
                have e1 := cells_row W O (block_mods hO h2 (by omega)) 1 (.int .i64 X) rfl
                have hGW := block_mods hG h2 (by omega)
                have g0 := cells_row W (O + 1) hGW 0 (.bool true) rfl
                have gf := frozen_of_block hGW 0
                have c1 := h1.cell
                have hm6 : Mods (fun k => k = O + 1) W (W.setCell ⟨O + 1, 0, none⟩ (.bool true)) := (Mods.refl (fun k => k = O + 1) W).setCell (p := ⟨O + 1, 0, none⟩) (fun _ => rfl) _
                have hP6 := hPW.frame hm6 (fun k h => .inr (.inl h))
                have hb6 := hbW.trans (hm6.below (by omega) (fun k hk e => by omega))
                have hPf := hP6.below (E' := fun _ => False) (Below.refl _ _) (fun k h => h.elim)
                clear hP6 hm6 hPW hbW hGW h1 h2 hor hP5 hO hG hN bA bN hGK hA
                by_cases hcase : ys.length = l.length
                · have hd : ((ys.length : Int) == (l.length : Int)) = true := by simp [hcase]
                  clear hn
                  have HC2 := Lib.hid hcase
                  clear hcase
                  gi_wp2
                  refine ⟨⟨mks (D :: Ds), ?_⟩, ?_⟩
                  · repeat apply Exists.intro
                    refine ⟨?_, rfl⟩
                    exact ⟨k + 1, by omega, by go_num, ⟨l, _, _, D :: Ds, hPf.mono (by omega), hDs', rfl⟩, hb6⟩
                  · simp [intOf]; omega
                · have hd : ((ys.length : Int) == (l.length : Int)) = false := by simp; omega
                  have hX : (ys.length : Int) = X := by omega
                  subst hX
                  clear hn hcase
                  gi_wp2
                  refine ⟨⟨mks (D :: Ds), ?_⟩, ?_⟩
                  · repeat apply Exists.intro
                    refine ⟨?_, rfl⟩
                    exact ⟨k + 1, by omega, by go_num, ⟨l, _, _, D :: Ds, hPf.mono (by omega), hDs', rfl⟩, hb6⟩
                  · simp [intOf]; omega
    · obtain rfl : k = os.length := by omega
      have k1 := cells_row wr R hP.2.1 1 (.slice va l.length vc) rfl
      have HN1 : Hid (zs.length + os.length < 27000000000000) := Lib.hid (by have := HZ.out; have := HN.out; omega)
      have HD := Lib.hid hDs
      clear hDs
      gi_wp2_with fail
      refine wpIn_wide.2 (wp_region_mix (fun w' => w'.cell? ⟨R, 1, none⟩ = some (.slice va l.length vc)) [0, 2, 3] [] 1 [([4, 5, 6, 7, 8, 9, 10, 11, 12, 13, 14, 15], [16])] (by kernel_rfl) (by kernel_rfl) (by kernel_rfl) rfl (fun _ _ hx h => hx.cell h) k1 ?_)
      intro Q' hQ'
      simp only [pickOps, List.flatMap_cons, List.flatMap_nil, List.drop_succ_cons, List.drop_zero, List.take_succ_cons, List.take_zero, List.cons_append, List.nil_append, List.append_nil]
      repeat (first
        | (refine wpReads_skip (by rfl) ?_; (try simp only [Act.put, List.setIfInBounds_toArray, List.set_cons_zero, List.set_cons_succ]))
        | (refine wpReads_cons ?_ (by rfl) (by rfl) ?_ ?_; rotate_left; (intro wz hz; (try dsimp only at hz); go_simp; try with_reducible rfl); (try simp only [Act.put, List.setIfInBounds_toArray, List.set_cons_zero, List.set_cons_succ]))
        | (refine wpReads_any ?_ (by rfl) ?_ ?_; rotate_left; (intro wz; go_simp; try with_reducible rfl); (try simp only [Act.put, List.setIfInBounds_toArray, List.set_cons_zero, List.set_cons_succ])))
      refine wpReads_nil ?_
      go_wp2_with fail
      refine (told_any (hP.1.drewN 1) (by have := HN1.out; omega)).mono ?_
      rintro e w3 ⟨v3, rfl, o3, hb3⟩
      have hb3 : Below wr.heap.size wr w3 := below_ld (n := 1) hb3
      obtain ⟨s3, c3, rfl⟩ := owns_slice o3
      have hP3 := hP.below hb3 (E' := fun _ => False) (fun _ h => h.elim)
      have hs3 := has_of_owns o3
      have hbw3 := hbw.trans (hb3.mono hsz)
      have k3 := cells_row w3 R hP3.2.1 1 (.slice va l.length vc) rfl
      clear hP o3 hb3 hbw k1
      go_wp2_with fail
      refine ⟨k3, ?_⟩
      have hS2x : ∀ x y : World, (x.cell? ⟨R, 1, none⟩ = some (.slice va l.length vc) ∧ PS (fun _ => False) x w1.heap.size b R C l l (zs.length + os.length) r (.slice va l.length vc) Ds ∧ HasInts x (.slice s3 l.length c3) l ∧ Below w.heap.size w x) → Below x.heap.size x y →
          (y.cell? ⟨R, 1, none⟩ = some (.slice va l.length vc) ∧ PS (fun _ => False) y w1.heap.size b R C l l (zs.length + os.length) r (.slice va l.length vc) Ds ∧ HasInts y (.slice s3 l.length c3) l ∧ Below w.heap.size w y) := fun x y ⟨h1, h2, h3, h4⟩ hb =>
        ⟨cell_later hb h1, h2.below hb (fun _ h => h.elim), h3.below hb, h4.trans (hb.mono h4.size)⟩
      have HS2 := Lib.hid hS2x
      clear hS2x
      refine ⟨fun x => x.cell? ⟨R, 1, none⟩ = some (.slice va l.length vc) ∧ PS (fun _ => False) x w1.heap.size b R C l l (zs.length + os.length) r (.slice va l.length vc) Ds ∧ HasInts x (.slice s3 l.length c3) l ∧ Below w.heap.size w x, ⟨k3, hP3, hs3, hbw3⟩, ?_⟩
      simp only [pickOps, List.flatMap_cons, List.flatMap_nil, List.drop_succ_cons, List.drop_zero, List.take_succ_cons, List.take_zero, List.cons_append, List.nil_append, List.append_nil]
      refine wpHead_call (.bool true) 27 #[.slice s3 l.length c3, .slice va l.length vc] (by rfl) (fun wz => by go_simp) (fun wz hz => ?_) ?_
      · refine (same_yes hz.2.2.1 hz.2.1.2.2.1.has (by have := HL.out; have := HN1.out; omega)).mono ?_
        rintro e wy ⟨rfl, m, rfl⟩
        exact ⟨rfl, HS2.out _ _ hz (below_dr (Below.refl _ _))⟩
      simp only [Act.put, List.setIfInBounds_toArray, List.set_cons_zero, List.set_cons_succ]
      repeat (first
        | (refine wpHead_skip (by rfl) ?_; (try simp only [Act.put, List.setIfInBounds_toArray, List.set_cons_zero, List.set_cons_succ]))
        | (refine wpHead_val ?_ (by rfl) ?_ ?_; rotate_left; (intro wz hz; (try dsimp only at hz); (first | (go_simp; done) | (go_simp; with_reducible rfl))); (try simp only [Act.put, List.setIfInBounds_toArray, List.set_cons_zero, List.set_cons_succ])))
      refine wpHead_call (.int .i64 (l.length : Int)) 23 #[.pointer (some ⟨b, 0, none⟩)] (by rfl) (fun wz => by go_simp) (fun wz hz => ?_) ?_
      · refine (iq_len hz.2.1.1 (by have := HN1.out; omega)).mono ?_
        rintro e wy ⟨rfl, m, rfl⟩
        exact ⟨rfl, HS2.out _ _ hz (below_dr (Below.refl _ _))⟩
      simp only [Act.put, List.setIfInBounds_toArray, List.set_cons_zero, List.set_cons_succ]
      repeat (first
        | (refine wpHead_skip (by rfl) ?_; (try simp only [Act.put, List.setIfInBounds_toArray, List.set_cons_zero, List.set_cons_succ]))
        | (refine wpHead_val ?_ (by rfl) ?_ ?_; rotate_left; (intro wz hz; (try dsimp only at hz); (first | (go_simp; done) | (go_simp; with_reducible rfl))); (try simp only [Act.put, List.setIfInBounds_toArray, List.set_cons_zero, List.set_cons_succ])))
      refine wpHead_call (.bool true) 10 #[] (by rfl) (fun wz => by go_simp) (fun wz hz => ?_) ?_
      · refine (awake_yes wz).mono ?_
        rintro e wy ⟨rfl, hby⟩
        exact ⟨rfl, HS2.out _ _ hz hby⟩
      simp only [Act.put, List.setIfInBounds_toArray, List.set_cons_zero, List.set_cons_succ]
      repeat (first
        | (refine wpHead_skip (by rfl) ?_; (try simp only [Act.put, List.setIfInBounds_toArray, List.set_cons_zero, List.set_cons_succ]))
        | (refine wpHead_val ?_ (by rfl) ?_ ?_; rotate_left; (intro wz hz; (try dsimp only at hz); (first | (go_simp; done) | (go_simp; with_reducible rfl))); (try simp only [Act.put, List.setIfInBounds_toArray, List.set_cons_zero, List.set_cons_succ])))
      refine wpHead_nil ?_
      rintro w4 ⟨_, hP4, _, hbw4⟩
      clear hP3 hs3 hbw3 k3
      go_wp2
      refine hQ' _ _ ?_
      gi_wp2
      refine leaves_mks (v := .bool true) (fun w => ?_) Ds _ HD.out.1 (fun D hD => ⟨(hP4.2.2.2.2.2.2 D hD).1, HD.out.2 D hD⟩) rfl hbw4
      refine (results_tmp (fn := Try.f4) (t := 6) rfl _ _ _).trans ?_
      rfl

theorem plays_all (w : World) (C : Int) (v v' : Value) (zs : List Int) (os : List (Int × Int)) (hC : C ≤ 9223372036854775807) (hz : zs.length ≤ 17600000000000) (hn : os.length ≤ 9000000000000) (hi : InInts w v zs) (hv : HasOps w v' os) :
    Calls Try.prog 4 #[.int .i64 C, v, v'] w fun e w' => e = .returned (.bool true) ∧ Below w.heap.size w w' := by
  obtain ⟨ao, zc, rfl, _, _, h3, _, h5⟩ := hi
  obtain ⟨so, cap, rfl, hc⟩ := hv.at
  by_cases g1 : C < 0
  · exact plays_neg w C zs ao zc so os.length cap g1 hz h3 h5
  · exact callsIn_wide.1 (plays_in w C zs ao zc os so cap (by omega) hC hz hn h3 h5 hc)
end Go.Proofs.Ytifhnealecndnaa
