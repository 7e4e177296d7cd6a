/- A region that draws its order: what only reads, one call, what only looks at its answer, the rest in whatever order. No program in sight. -/
import Derived.Test.YtaholpfikcdhbaaDynNilZ2
import Derived.Test.YtaholpfikcdhbaaDynNilZ4
import Derived.Test.YtaholpfikcdhbaaDynNilZ3
import Derived.Test.YtaholpfikcdhbaaProg
import Derived.Test.YtaholpfikcdhbaaDynNilZ1
import Derived.Maps.Own
import Derived.Laws.ResultCell
import Derived.Laws.Rows
import Derived.Maps.OwnOps
import Derived.Maps.Views
import Derived.Maps.OwnSet
import Derived.Deep.QuietTactic
import Derived.BigQuiet
import Derived.Deep.DeepMust
namespace Go.Proofs.Ytaholpfikcdhbaa
section
variable {P : Program} {md : Region.Mode} {ops : Array Oper} {Q : Exit → Go.Act → World → Prop} {S : World → Prop}

theorem closedL_setAll : ∀ (r : List Nat) (listed : Array Bool), closedL md ops listed → stageHead md ops (fun _ => true) r listed = true → closedL md ops (setAll listed r)
  | [], _, h, _ => h
  | i :: r, listed, h, hB => by
    simp only [stageHead, Bool.and_eq_true] at hB
    obtain ⟨⟨hrdy, _⟩, hB'⟩ := hB
    have hrdy' : i ∈ Region.ready md ops listed := by simpa using hrdy
    exact closedL_setAll r _ (closedL_set h hrdy') hB'

theorem wpReads_mono {Q' : Go.Act → Prop} {Q : Go.Act → Prop} (hq : ∀ a, Q a → Q' a) : ∀ (l : List Oper) (a : Go.Act), wpReads P ops S Q l a → wpReads P ops S Q' l a
  | [], a, h => hq a h
  | _ :: r, _, ⟨v, hy, hk⟩ => ⟨v, hy, wpReads_mono hq r _ hk⟩

theorem wpOp_of_listK {i : Nat} {K K0 : Go.Act → World → Prop} {a : Go.Act} {w : World} (hi : i < ops.size) (hK : ∀ a w, K0 a w → K a w) (h : wpList P ops (EndK Q K0) (pickOps ops [i]) a w) : wpOp P ops Q i K a w := by
  have ho : ops[i]? = some ops[i] := Array.getElem?_eq_getElem hi
  rw [pick_one ho []] at h
  have hw : wpOp P ops (EndK Q K0) i (wpList P ops (EndK Q K0) (pickOps ops [])) a w := by unfold wpOp; simp only [ho]; exact h
  exact wpOp_endK (fun a' w' h' => hK a' w' h') hw

def midOK (md : Region.Mode) (ops : Array Oper) (r1 : List Nat) (k : Nat) (r2 M : List Nat) : Bool :=
  Region.noSelect ops && ((r1 ++ r2).all fun i => anyAt ops i || (List.range ops.size).all fun j => madeB ops j || (r1 ++ r2).contains j || M.contains j || behindB md ops ops.size j i) &&
  stageHead md ops (fun _ => true) r1 (Array.replicate ops.size false) && decide (Region.ready md ops (setAll (Array.replicate ops.size false) r1) = [k]) &&
  stageHead md ops (fun _ => true) r2 ((setAll (Array.replicate ops.size false) r1).setIfInBounds k true)

theorem wp_region_mid {id : Nat} {l : List Oper} {a : Go.Act} {w : World} (S : World → Prop) (r1 : List Nat) (k : Nat) (r2 M : List Nat) (n : Nat) (hm : P.follows .mixedOrders = true)
    (hB : midOK .any l.toArray r1 k r2 M = true) (hlen : r1.length + ((r2.length + n) + 1) = l.length) (hS : S w.drew)
    (h : ∀ Q' : Exit → Go.Act → World → Prop, (∀ a w, Q .normal a w → Q' .normal a w) → wpReads P l.toArray S (fun a' => wpList P l.toArray (EndK Q' fun a1 w1 => S w1 ∧ wpReads P l.toArray S (fun a2 => wpAnyT P .any l.toArray Q' S (bsOf l.toArray (r1 ++ r2) M) n (setAll ((setAll (Array.replicate l.length false) r1).setIfInBounds k true) r2) a2 w1) (pickOps l.toArray r2) a1) (pickOps l.toArray [k]) a' w.drew) (pickOps l.toArray r1) a) :
    (Code.region id l.toArray true).wp P Q a w := by
  refine wp_region_noPanic ?_
  refine wp_region_any hm ?_
  simp only [midOK, Bool.and_eq_true, List.all_eq_true, List.mem_range, Bool.or_eq_true, decide_eq_true_eq] at hB
  obtain ⟨⟨⟨⟨hsel, hbe⟩, h1⟩, hk⟩, h2⟩ := hB
  refine wpAny_of_T (S := S) (B := bsOf l.toArray (r1 ++ r2) M) _ _ _ _ ?_
  have hbe' : ∀ i ∈ (r1 ++ r2), anyAt l.toArray i = false → ∀ j, j < l.toArray.size → madeB l.toArray j = true ∨ (r1 ++ r2).contains j = true ∨ M.contains j = true ∨ behindB .any l.toArray l.toArray.size j i = true := fun i hi hany j hj => by
    rcases hbe i hi with h0 | h0
    · rw [hany] at h0; cases h0
    rcases h0 j hj with ((h1 | h1) | h1) | h1
    · exact .inl h1
    · exact .inr (.inl h1)
    · exact .inr (.inr (.inl h1))
    · exact .inr (.inr (.inr h1))
  have hcl0 : closedL .any l.toArray (Array.replicate l.toArray.size false) := fun j oj _ hl => by rw [getD_replicate_false] at hl; cases hl
  have hcl1 := closedL_setAll r1 _ hcl0 h1
  have hkr : k ∈ Region.ready .any l.toArray (setAll (Array.replicate l.toArray.size false) r1) := by rw [hk]; simp
  have hcl2 := closedL_set hcl1 hkr
  have hh := h (NoPanic Q) (fun _ _ h => NoPanic.normal h)
  have key := wpAnyT_reads (P := P) (md := .any) (Q := NoPanic Q) (S := S) (reads := r1 ++ r2) (M := M) (n := (r2.length + n) + 1) hsel (fun c a a' w h => h) hbe' r1 (Array.replicate l.toArray.size false) a { w with drawn := w.drawn + 1 } (fun i hi => by simp [hi]) hcl0 h1 hS
  rw [hlen] at key
  have hk' : Region.ready .any l.toArray (setAll (Array.replicate l.toArray.size false) r1) = [k] := hk
  have go : wpReads P l.toArray S (fun a' => wpAnyT P .any l.toArray (NoPanic Q) S (bsOf l.toArray (r1 ++ r2) M) (r2.length + n + 1) (setAll (Array.replicate l.toArray.size false) r1) a' { w with drawn := w.drawn + 1 }) (pickOps l.toArray r1) a := by
    refine wpReads_mono (fun a' ha' => ?_) _ _ hh
    refine ⟨fun h0 => (by rw [h0] at hk'; cases hk'), fun j hj => ?_⟩
    rw [hk'] at hj
    obtain rfl : j = k := by simpa using hj
    refine wpOp_of_listK (ready_lt hkr) (fun a1 w1 h1' => ?_) ha'
    obtain ⟨hS1, hr2⟩ := h1'
    refine ⟨fun _ _ => hS1, ?_⟩
    exact wpAnyT_reads (P := P) (md := .any) (Q := NoPanic Q) (S := S) (reads := r1 ++ r2) (M := M) (n := n) hsel (fun c a a' w h => h) hbe' r2 _ a1 w1 (fun i hi => by simp [hi]) hcl2 h2 hS1 (by simpa using hr2)
  have := key go
  simpa using this
end
end Go.Proofs.Ytaholpfikcdhbaa

/- A task: a step that gives. -/
namespace Go.Proofs.Ytaholpfikcdhbaa
open Go.RowKit

/-- a step of a task that called one stream: C the colours that the call turned, F what is known of them -/
def StepT (w : World) (o : Col) (C : Nat → Prop) (F : Col → World → Prop) (M b : Nat) (g : GGraph) (qs : Ptrs) (t : Nat) (x' : TaskP) (e : Ending) (w' : World) : Prop :=
  ∃ o2 w2 o' v', e = .returned (.bool true) ∧ Turn o o2 C w w2 ∧ F o2 w2 ∧ Turn o2 o' (MineT M) w2 w' ∧ TaskAt w' o' M b g qs t x' v'
def CallT (w : World) (o : Col) (C : Nat → Prop) (F : Col → World → Prop) (v : Value) (e : Ending) (w' : World) : Prop := ∃ o', e = .returned v ∧ Turn o o' C w w' ∧ F o' w'
set_option maxRecDepth 100000 in
set_option maxHeartbeats 2000000 in
theorem tstep_gives {w : World} {o : Col} {M b s : Nat} {g : GGraph} {qs : Ptrs} {t : Nat} {x : TaskP} {v : TVals} {C : Nat → Prop} {F : Col → World → Prop} {f : FuncId} {ty : TypeId} {cv : Value} (h : TaskAt w o M b g qs t x v) (hg : x.gives = true) (hO : TOk g t s x) (hs : s < 4611686018427387904)
    (hd : ∀ w, (method 279 ty cv "pianola/dyn.give").run Try.prog w = .ok (f, cv) w) (hcf : ∀ (args : Array Value) (w : World), (callFunc f args).run Try.prog w = .ok (.enter f args) w) (hv : dstV qs g t x.port = .iface ty cv) (hC : ∀ k, C k → ¬ MineT M k)
    (hcall : Calls Try.prog f #[cv, .int .i64 (nextP x)] w.drew (CallT w.drew o C F (.tuple #[]))) :
    Calls Try.prog 17 #[.pointer (some ⟨b, 0, none⟩)] w (StepT w o C F M b g qs t (gaveP (ratesI g t).length (ratesO g t).length x)) := by
  obtain ⟨hp, hgl, -, -, -, hl1, hl2⟩ := hO.give hg
  have hwh : x.whole < 4611686018427387904 := by have := hO.whole; omega
  have hb := h.blk
  unfold taskV at hb
  have c8 := hb.cell 8 _ rfl
  have c7 := hb.cell 7 _ rfl
  have c2 := hb.cell 2 _ rfl
  have c6 := hb.cell 6 _ rfl
  change w.cell? _ = some v.dst at c2
  change w.cell? _ = some v.gift at c6
  change w.cell? _ = some (.bool x.gives) at c8
  rw [hg] at c8
  obtain ⟨gd, fd, cd, e1, e2, e3⟩ := vals_at h.dst (k := x.port) (by simpa using hp)
  simp only [List.length_map, List.length_range, List.getElem_map, List.getElem_range] at e1 e2 e3
  rw [e1] at c2
  rw [hv] at e3
  have hgift := h.gift.some (by omega)
  rcases hgift with k | ⟨k1, g1, cap1, k2, k3, k4, k5, k6⟩
  · rw [hg] at k
    cases k.1
  · rw [k2] at c6
    have hpg : x.port < x.gift.length := by omega
    have k6p := k6 x.port hpg
    obtain ⟨z, zs, hz⟩ : ∃ z zs, x.gift[x.port] = z :: zs := by
      have : lenAt x.gift x.port = (x.gift[x.port].length : Int) := by unfold lenAt; rw [List.getElem?_eq_getElem hpg]; rfl
      cases hh : x.gift[x.port] with
      | nil => rw [this, hh] at hl1; simp at hl1
      | cons z zs => exact ⟨z, zs, rfl⟩
    have hgd : x.gift[x.port]?.getD [] = z :: zs := by rw [List.getElem?_eq_getElem hpg, hz]; rfl
    have hnx : nextP x = z := by unfold nextP; rw [hgd]; rfl
    have hgave : gaveP (ratesI g t).length (ratesO g t).length x = finishP (ratesI g t).length (ratesO g t).length { x with gift := x.gift.set x.port zs, port := if zs = [] then x.port + 1 else x.port } := by
      unfold gaveP
      rw [hgd]
      rfl
    rw [hz] at k6p
    obtain ⟨gg, og, cg, q1, q2, q3⟩ := k6p.some (by simp [ivs])
    have e4 : (ivs (z :: zs)).length = zs.length + 1 := by simp [ivs]
    rw [e4] at q1 q2
    have hgv : x.port < v.gvs.length := by omega
    have q0 : v.gvs[x.port]? = some (.slice (some ⟨gg, og, none⟩) (zs.length + 1) cg) := by
      rw [← q1, List.getElem?_eq_getElem hgv]; rfl
    have cr := (by rw [k2] at k4; exact k4 : Own w o (M + 8) 22 1 (.slice (some ⟨g1, 0, none⟩) x.gift.length cap1) x.gift.length v.gvs).cellAt q0
    have hvals := k6p.vals
    rw [q1] at hvals
    have cz := (vals_at hvals (k := 0) (by simp [ivs]))
    obtain ⟨gg', og', cg', u1, u2, cz⟩ := cz
    simp only [Value.slice.injEq, Option.some.injEq, Addr.mk.injEq] at u1
    obtain ⟨⟨rfl, rfl, -⟩, -, rfl⟩ := u1
    rw [Nat.add_zero] at cz
    change w.cell? _ = some (Value.int .i64 z) at cz
    rw [q1] at k6p
    rw [hnx] at hcall
    obtain ⟨n, hn⟩ : ∃ n, (ratesO g t).length = n := ⟨_, rfl⟩
    rw [hn] at hp hgl e1 e2 c2
    rw [hgl] at c6 k3
    obtain ⟨p, hpe⟩ : ∃ p, x.port = p := ⟨_, rfl⟩
    change w.cell? _ = some (.int .i64 (x.port : Int)) at c7
    rw [hpe] at c7 e3 cr hp k6p hpg
    obtain ⟨L, hL⟩ : ∃ L, zs.length = L := ⟨_, rfl⟩
    rw [hL] at cr q2
    have hpi : (p : Int) < (n : Int) := by omega
    have hcdi : (n : Int) ≤ cd := by omega
    have hc1i : (n : Int) ≤ cap1 := by omega
    have hLi : ((L : Int) + 1) ≤ cg := by omega
    have hL0 : (0 : Int) < (L : Int) + 1 := by omega
    have hL1 : (1 : Int) ≤ (L : Int) + 1 := by omega
    have H := Lib.hid h
    have HO := Lib.hid hO
    have HC := Lib.hid hC
    have HK4 := Lib.hid k4
    have HK6 := Lib.hid k6p
    have HK2 := Lib.hid k2
    have HG := Lib.hid (And.intro hn (And.intro hpe (And.intro hL (And.intro hgl (And.intro hg (And.intro hwh (And.intro hgave hpg)))))))
    have HQ0 := Lib.hid q0
    obtain ⟨X', hX'⟩ : ∃ y, gaveP (ratesI g t).length (ratesO g t).length x = y := ⟨_, rfl⟩
    rw [hX']
    have HX' := Lib.hid hX'
    clear hX'
    clear k1 h hO hC k4 k6 k6p k2 hn hpe hL hgl hg hwh hgave hpg hb e1 hnx hgd hz q0 q1 hvals u2 hl1 hl2 hgv k5 e4 hv hs
    go_enter Try.func17, Try.ntmps17
    go_wp2_with fail
    refine wp_region_lex (fun w' => w'.cell? ⟨b, 2, none⟩ = some (.slice (some ⟨gd, fd, none⟩) n cd) ∧ w'.cell? ⟨b, 7, none⟩ = some (.int .i64 (p : Int)) ∧ w'.cell? ⟨gd, fd + p, none⟩ = some (.iface ty cv) ∧ w'.cell? ⟨b, 6, none⟩ = some (.slice (some ⟨g1, 0, none⟩) n cap1) ∧ w'.cell? ⟨g1, p, none⟩ = some (.slice (some ⟨gg, og, none⟩) (L + 1) cg) ∧ w'.cell? ⟨gg, og, none⟩ = some (.int .i64 z)) [0, 1, 2, 3, 4, 5, 6, 7, 8, 9, 10, 11, 12, 13, 14, 15, 16, 17, 18, 19, 20, 21, 22, 23] [24] (by kernel_rfl) (by kernel_rfl) rfl (fun _ _ hx h => ⟨hx.cell h.1, hx.cell h.2.1, hx.cell h.2.2.1, hx.cell h.2.2.2.1, hx.cell h.2.2.2.2.1, hx.cell h.2.2.2.2.2⟩) ⟨c2, c7, e3, c6, cr, cz⟩ ?_
    intro Q' hQ'
    simp only [pickOps, List.flatMap_cons, List.flatMap_nil, List.drop_succ_cons, List.drop_zero, List.take_succ_cons, List.take_zero, List.cons_append, List.nil_append, List.append_nil]
    repeat (first
      | (refine wpReads_skip (by rfl) ?_; (try simp only [Act.put, List.setIfInBounds_toArray, List.set_cons_zero, List.set_cons_succ]))
      | (refine wpReads_cons ?_ (by rfl) (by rfl) ?_ ?_; rotate_left; (intro wz hz; (try dsimp only at hz); go_simp; try with_reducible rfl); (try simp only [Act.put, List.setIfInBounds_toArray, List.set_cons_zero, List.set_cons_succ]))
      | (refine wpReads_any ?_ (by rfl) ?_ ?_; rotate_left; (intro wz; go_simp; try with_reducible rfl); (try simp only [Act.put, List.setIfInBounds_toArray, List.set_cons_zero, List.set_cons_succ])))
    refine wpReads_nil ?_
    go_wp2_with fail
    refine hcall.mono ?_
    rintro e w2 ⟨o2, rfl, T, hF⟩
    have T0 : Turn o o2 C w w2 := ((Turn.refl o C w).drew).trans T (fun _ h => h)
    obtain ⟨hn, hpe, hL, hgl, hg, hwh, hgave, hpg⟩ := HG.out
    have TA := H.out.turn T0 HC.out
    have hb := TA.blk
    unfold taskV at hb
    have c7 := hb.cell 7 _ rfl
    have c6 := hb.cell 6 _ rfl
    change w2.cell? _ = some v.gift at c6
    change w2.cell? _ = some (.int .i64 (x.port : Int)) at c7
    rw [HK2.out, hgl] at c6
    rw [hpe] at c7
    have k4 := HK4.out.turn T0 (fun hc => HC.out _ hc (by unfold MineT; omega))
    rw [HK2.out] at k4
    have cr := k4.cellAt HQ0.out
    rw [hL, hpe] at cr
    have fr := k4.frozenAt p
    have k6 := (HK6.out.turn T0 (fun hc => HC.out _ hc (by unfold MineT; have := H.out.few.2.2.2; omega))).cut (k := 1) (by simp [ivs])
    rw [hL] at k6
    have HT0 := Lib.hid T0
    have HF := Lib.hid hF
    have HTA := Lib.hid TA
    have HU := Lib.hid k6
    clear T hF T0 hn hpe hL hgl hg hwh hgave hpg TA hb k4 k6
    go_wp2_with fail
    refine wp_region_lex (fun w' => w'.cell? ⟨b, 7, none⟩ = some (.int .i64 (p : Int)) ∧ w'.cell? ⟨b, 6, none⟩ = some (.slice (some ⟨g1, 0, none⟩) n cap1) ∧ w'.cell? ⟨g1, p, none⟩ = some (.slice (some ⟨gg, og, none⟩) (L + 1) cg)) [0, 1, 2, 3, 4, 5, 6, 7, 8, 9, 10, 11, 12, 13, 14, 15, 16, 17, 18, 19] [20] (by kernel_rfl) (by kernel_rfl) rfl (fun _ _ hx h => ⟨hx.cell h.1, hx.cell h.2.1, hx.cell h.2.2⟩) ⟨c7, c6, cr⟩ ?_
    intro Q' hQ'
    simp only [pickOps, List.flatMap_cons, List.flatMap_nil, List.drop_succ_cons, List.drop_zero, List.take_succ_cons, List.take_zero, List.cons_append, List.nil_append, List.append_nil]
    repeat (first
      | (refine wpReads_skip (by rfl) ?_; (try simp only [Act.put, List.setIfInBounds_toArray, List.set_cons_zero, List.set_cons_succ]))
      | (refine wpReads_cons ?_ (by rfl) (by rfl) ?_ ?_; rotate_left; (intro wz hz; (try dsimp only at hz); go_simp; try with_reducible rfl); (try simp only [Act.put, List.setIfInBounds_toArray, List.set_cons_zero, List.set_cons_succ]))
      | (refine wpReads_any ?_ (by rfl) ?_ ?_; rotate_left; (intro wz; go_simp; try with_reducible rfl); (try simp only [Act.put, List.setIfInBounds_toArray, List.set_cons_zero, List.set_cons_succ])))
    refine wpReads_nil ?_
    have hu := HU.out
    simp only [Nat.add_sub_cancel] at hu
    change OffRow w2 o2 (M + 32 + p) 3 _ (ivs zs) at hu
    generalize (if cg = 1 then some (⟨gg, og, none⟩ : Addr) else some ⟨gg, og + 1, none⟩) = pa at hu ⊢
    obtain ⟨TA3, S3⟩ := HTA.out.giftSet (by have := HG.out; exact this.2.2.2.2.1) HK2.out (p := p) (by have := HG.out; exact this.2.2.2.2.2.2.2) hu
    have HU3 := Lib.hid hu
    clear hu c6 c7
    have hb3 := TA3.blk
    unfold taskV at hb3
    have c7 := hb3.cell 7 _ rfl
    have c6 := hb3.cell 6 _ rfl
    have f7 := hb3.frozen 7
    change World.cell? _ _ = some v.gift at c6
    change World.cell? _ _ = some (.int .i64 (x.port : Int)) at c7
    rw [HK2.out, show x.gift.length = n from HG.out.2.2.2.1] at c6
    rw [show x.port = p from HG.out.2.1] at c7
    have cr3 : (w2.setCell ⟨g1, p, none⟩ (.slice pa L (cg - 1))).cell? ⟨g1, p, none⟩ = some (.slice pa L (cg - 1)) := by
      have k4 := HK4.out.turn HT0.out (fun hc => HC.out _ hc (by unfold MineT; omega))
      rw [HK2.out] at k4
      have q0 := HQ0.out
      rw [show x.port = p from HG.out.2.1] at q0
      refine (k4.setAt (i := p) (List.getElem?_eq_some_iff.1 q0).1 _).1.cellAt ?_
      exact List.getElem?_set_self (List.getElem?_eq_some_iff.1 q0).1
    have HTA3 := Lib.hid TA3
    have HS3 := Lib.hid S3
    clear TA3 S3 hb3
    go_wp2_with fail
    clear cr fr
    refine wp_region_lex (fun w' => w'.cell? ⟨b, 7, none⟩ = some (.int .i64 (p : Int)) ∧ w'.cell? ⟨b, 6, none⟩ = some (.slice (some ⟨g1, 0, none⟩) n cap1) ∧ w'.cell? ⟨g1, p, none⟩ = some (.slice pa L (cg - 1))) [0, 1, 2, 3, 4, 5, 6, 7, 8, 9, 10, 11] [] (by kernel_rfl) (by kernel_rfl) rfl (fun _ _ hx h => ⟨hx.cell h.1, hx.cell h.2.1, hx.cell h.2.2⟩) ⟨c7, c6, cr3⟩ ?_
    intro Q' hQ'
    simp only [pickOps, List.flatMap_cons, List.flatMap_nil, List.drop_succ_cons, List.drop_zero, List.take_succ_cons, List.take_zero, List.cons_append, List.nil_append, List.append_nil]
    repeat (first
      | (refine wpReads_skip (by rfl) ?_; (try simp only [Act.put, List.setIfInBounds_toArray, List.set_cons_zero, List.set_cons_succ]))
      | (refine wpReads_cons ?_ (by rfl) (by rfl) ?_ ?_; rotate_left; (intro wz hz; (try dsimp only at hz); go_simp; try with_reducible rfl); (try simp only [Act.put, List.setIfInBounds_toArray, List.set_cons_zero, List.set_cons_succ]))
      | (refine wpReads_any ?_ (by rfl) ?_ ?_; rotate_left; (intro wz; go_simp; try with_reducible rfl); (try simp only [Act.put, List.setIfInBounds_toArray, List.set_cons_zero, List.set_cons_succ])))
    refine wpReads_nil ?_
    by_cases hL0 : L = 0
    · have hLz : ((L : Int) == 0) = true := by rw [beq_iff_eq]; omega
      have hwr : IntKind.i64.wrap ((p : Int) + 1) = (p : Int) + 1 := IntWalk.i64_in _ (by have := H.out.few.2.1; have := HG.out.1; omega)
      have HL0 := Lib.hid hL0
      clear hL0 hL1
      obtain ⟨TA4, S4⟩ := HTA3.out.fields (x' := { x with gift := x.gift.set p zs, port := p + 1 }) (i := 7) (u := .int .i64 ((p : Int) + 1)) (by unfold taskV; simp) rfl rfl rfl rfl rfl
      have HTA4 := Lib.hid (TA4.drewN 2)
      have HS4 := Lib.hid S4
      clear TA4 S4
      go_wp2_with fail
      refine (tfinish_any HTA4.out HG.out.2.2.2.2.2.1 (by have := H.out.few.2.1; have := HG.out.1; show p + 1 ≤ 1000; omega)).mono ?_
      rintro e w5 ⟨o5, v5, rfl, T5, TA5⟩
      have HT5 := Lib.hid T5
      have HTA5 := Lib.hid TA5
      clear T5 TA5
      go_wp2_with fail
      go_ret
      refine ⟨o2, w2, o5, v5, rfl, HT0.out, HF.out, ?_, ?_⟩
      · exact ((((HS3.out.mono (fun c hc => by rw [hc]; unfold MineT; omega)).trans (HS4.out.mono (mineT_self M)) (fun _ h => h)).drewN 2).trans HT5.out (fun _ h => h))
      · obtain ⟨-, hpe, hL, -, -, -, hgave, -⟩ := HG.out
        have hzs : zs = [] := List.eq_nil_of_length_eq_zero (by rw [hL]; exact HL0.out)
        rw [← HX'.out, hgave, if_pos hzs, hpe]
        exact HTA5.out
    · have hLz : ((L : Int) == 0) = false := by rw [beq_eq_false_iff_ne]; omega
      have HL0 := Lib.hid hL0
      clear hL0
      have HTA4 := Lib.hid (HTA3.out.drewN 2)
      go_wp2_with fail
      refine (tfinish_any HTA4.out HG.out.2.2.2.2.2.1 (by have := H.out.few.2.1; have := HG.out.1; have := HG.out.2.1; show x.port ≤ 1000; omega)).mono ?_
      rintro e w5 ⟨o5, v5, rfl, T5, TA5⟩
      have HT5 := Lib.hid T5
      have HTA5 := Lib.hid TA5
      clear T5 TA5
      go_wp2_with fail
      go_ret
      refine ⟨o2, w2, o5, v5, rfl, HT0.out, HF.out, ?_, ?_⟩
      · exact (((HS3.out.mono (fun c hc => by rw [hc]; unfold MineT; omega)).drewN 2).trans HT5.out (fun _ h => h))
      · obtain ⟨-, hpe, hL, -, -, -, hgave, -⟩ := HG.out
        have hzs : ¬ zs = [] := fun h => HL0.out (by rw [← hL, h]; rfl)
        rw [← HX'.out, hgave, if_neg hzs, hpe]
        have := HTA5.out
        rw [hpe] at this
        exact this
end Go.Proofs.Ytaholpfikcdhbaa

/- A task: a step that takes. -/
namespace Go.Proofs.Ytaholpfikcdhbaa
open Go.RowKit

/-- a row that is not empty: where it lies, its colour -/
theorem vals_at2 {w : World} {o : Col} {c : Nat} {v : Value} {vs : List Value} (h : Vals w o c v vs) {k : Nat} (hk : k < vs.length) : ∃ g off cap, v = .slice (some ⟨g, off, none⟩) vs.length cap ∧ vs.length ≤ cap ∧ w.cell? ⟨g, off + k, none⟩ = some vs[k] ∧ o g = c := by
  obtain ⟨ao, cap, rfl⟩ := h.slice
  obtain ⟨g, off, rfl, _, h2, _, h4, h5⟩ := h.at (by omega)
  exact ⟨g, off, cap, rfl, h2, by rw [h5 k hk, List.getElem?_eq_getElem hk]; rfl, h4⟩
set_option maxRecDepth 100000 in
set_option maxHeartbeats 2000000 in
theorem tstep_takes {w : World} {o : Col} {M b s : Nat} {g : GGraph} {qs : Ptrs} {t : Nat} {x : TaskP} {v : TVals} {C : Nat → Prop} {F : Col → World → Prop} {X : Int} (h : TaskAt w o M b g qs t x v) (hg : x.gives = false) (hO : TOk g t s x) (hga : ActsOk g) (hp : x.port < (ratesI g t).length) (hC : ∀ k, C k → ¬ MineT M k)
    (hcall : ∀ m, Calls Try.prog 69 #[.agg #[.pointer (some ⟨qs (fromP g t x.port), 0, none⟩)]] (w.drewN m) (CallT (w.drewN m) o C F (.int .i64 X))) :
    Calls Try.prog 17 #[.pointer (some ⟨b, 0, none⟩)] w (StepT w o C F M b g qs t (tookP (rI g t x.port) x X)) := by
  obtain ⟨hgift, hpl, hfull, hnone, hless⟩ := hO.take hg
  have hlp := hless hp
  have hr := rI_pos hga hp
  have hb := h.blk
  unfold taskV at hb
  have c8 := hb.cell 8 _ rfl
  have c7 := hb.cell 7 _ rfl
  have c1 := hb.cell 1 _ rfl
  have c3 := hb.cell 3 _ rfl
  have c5 := hb.cell 5 _ rfl
  change w.cell? _ = some v.src at c1
  change w.cell? _ = some v.ins at c3
  change w.cell? _ = some (.bool x.gives) at c8
  change w.cell? _ = some (.slice (some ⟨v.hand, 0, none⟩) (ratesI g t).length (ratesI g t).length) at c5
  change w.cell? _ = some (.int .i64 (x.port : Int)) at c7
  rw [hg] at c8
  obtain ⟨gd, fd, cd, e1, e2, e3, ecol⟩ := vals_at2 h.src (k := x.port) (by simpa using hp)
  simp only [List.length_map, List.length_range, List.getElem_map, List.getElem_range] at e1 e2 e3
  rw [e1] at c1
  obtain ⟨gi, fi, ci, i1, i2, i3, icol⟩ := vals_at2 h.ins (k := x.port) (by simpa [ivs] using hp)
  simp only [ivs_len] at i1 i2
  have i4 : (ivs (ratesI g t))[x.port]'(by simpa [ivs] using hp) = .int .i64 (rI g t x.port) := by
    unfold rI
    rw [List.getElem?_eq_getElem hp]
    simp [ivs]
  rw [i4] at i3
  rw [i1] at c3
  have hhl := hO.hlen
  have hph : x.port < x.hand.length := by omega
  have hrow := h.hand.row x.port hph
  have hhv : x.port < v.hvs.length := by rw [h.hand.len]; exact hph
  have ch := h.hand.blk.cell x.port (v.hvs[x.port]'hhv) (by rw [List.getElem?_toArray, List.getElem?_eq_getElem hhv])
  obtain ⟨ra, rc, hrv⟩ := hrow.slice
  rw [ivs_len] at hrv
  rw [hrv] at ch hrow
  have hlen : lenAt x.hand x.port = (x.hand[x.port].length : Int) := by unfold lenAt; rw [List.getElem?_eq_getElem hph]; rfl
  obtain ⟨l, hl⟩ : ∃ l, x.hand[x.port] = l := ⟨_, rfl⟩
  have hgl : x.hand[x.port]?.getD [] = l := by rw [List.getElem?_eq_getElem hph, hl]; rfl
  rw [hl] at ch hrow hlen
  rw [hlen] at hlp
  have htook : tookP (rI g t x.port) x X = { x with hand := x.hand.set x.port (l ++ [X]), port := if ((l.length : Int) + 1 = rI g t x.port) then x.port + 1 else x.port } := by
    unfold tookP
    rw [hgl]
  obtain ⟨RI, hRI⟩ : ∃ r, rI g t x.port = r := ⟨_, rfl⟩
  rw [hRI] at i3 hlp hr htook ⊢
  obtain ⟨n, hn⟩ : ∃ n, (ratesI g t).length = n := ⟨_, rfl⟩
  rw [hn] at hp hhl e1 e2 c1 c3 c5 i1 i2
  have hn16 : n ≤ 16 := by rw [← hn]; exact h.few.1
  obtain ⟨p, hpe⟩ : ∃ p, x.port = p := ⟨_, rfl⟩
  obtain ⟨q, hq⟩ : ∃ q, qs (fromP g t x.port) = q := ⟨_, rfl⟩
  have hsrc : srcV qs g t x.port = .iface 43 (.agg #[.pointer (some ⟨q, 0, none⟩)]) := by unfold srcV; rw [hq]
  rw [hsrc] at e3
  rw [hq] at hcall
  rw [hpe] at c7 e3 ch hp hrow hph i3
  obtain ⟨L, hL⟩ : ∃ L, l.length = L := ⟨_, rfl⟩
  rw [hL] at ch hlp
  have hpi : (p : Int) < (n : Int) := by omega
  have hcdi : (n : Int) ≤ cd := by omega
  have hcii : (n : Int) ≤ ci := by omega
  have hd := disp_take q
  obtain ⟨i0, hi, hz0, hz1, hz2⟩ := info_parts info_int
  have H := Lib.hid h
  have HCOL := Lib.hid (And.intro ecol icol)
  clear ecol icol
  have HC := Lib.hid hC
  have HR := Lib.hid hrow
  have HI := Lib.hid hi
  have HG := Lib.hid (And.intro hn (And.intro hpe (And.intro hL (And.intro hph (And.intro hg (And.intro htook hhl))))))
  have HCALL := Lib.hid (hcall 2)
  have HLP := Lib.hid (And.intro hlp hr)
  obtain ⟨X', hX'⟩ : ∃ y, tookP RI x X = y := ⟨_, rfl⟩
  rw [hX']
  have HX' := Lib.hid hX'
  clear hX' h hC hrow hi hn hpe hL hph hg htook hhl hcall hlp hr hgift hpl hfull hnone hless hO hga hb e1 i1 i4 hlen hl hgl hRI hsrc hq hhv hrv
  go_enter Try.func17, Try.ntmps17
  go_wp2_with fail
  refine wp_region_lex (fun w' => w'.cell? ⟨b, 7, none⟩ = some (.int .i64 (p : Int)) ∧ w'.cell? ⟨b, 3, none⟩ = some (.slice (some ⟨gi, fi, none⟩) n ci)) [0, 1, 2, 3, 4, 5, 6, 7, 8, 9] [10] (by kernel_rfl) (by kernel_rfl) rfl (fun _ _ hx h => ⟨hx.cell h.1, hx.cell h.2⟩) ⟨c7, c3⟩ ?_
  intro Q' hQ'
  simp only [pickOps, List.flatMap_cons, List.flatMap_nil, List.drop_succ_cons, List.drop_zero, List.take_succ_cons, List.take_zero, List.cons_append, List.nil_append, List.append_nil]
  repeat (first
    | (refine wpReads_skip (by rfl) ?_; (try simp only [Act.put, List.setIfInBounds_toArray, List.set_cons_zero, List.set_cons_succ]))
    | (refine wpReads_cons ?_ (by rfl) (by rfl) ?_ ?_; rotate_left; (intro wz hz; (try dsimp only at hz); go_simp; try with_reducible rfl); (try simp only [Act.put, List.setIfInBounds_toArray, List.set_cons_zero, List.set_cons_succ]))
    | (refine wpReads_any ?_ (by rfl) ?_ ?_; rotate_left; (intro wz; go_simp; try with_reducible rfl); (try simp only [Act.put, List.setIfInBounds_toArray, List.set_cons_zero, List.set_cons_succ])))
  refine wpReads_nil ?_
  go_wp2_with fail
  refine wp_region_rest (fun w' => w'.cell? ⟨b, 5, none⟩ = some (.slice (some ⟨v.hand, 0, none⟩) n n) ∧ w'.cell? ⟨b, 7, none⟩ = some (.int .i64 (p : Int)) ∧ w'.cell? ⟨v.hand, p, none⟩ = some (.slice ra L rc) ∧ w'.cell? ⟨b, 1, none⟩ = some (.slice (some ⟨gd, fd, none⟩) n cd) ∧ w'.cell? ⟨gd, fd + p, none⟩ = some (.iface 43 (.agg #[.pointer (some ⟨q, 0, none⟩)]))) [0, 1, 2, 3, 4, 5, 6, 7, 8, 9, 10, 11, 12, 13, 14, 15, 16, 17, 18, 19, 20, 21, 22, 23, 24, 25, 26, 27] [28, 30] 5 (by kernel_rfl) (by kernel_rfl) rfl ⟨c5, c7, ch, c1, e3⟩ ?_
  intro Q' hQ'
  simp only [pickOps, List.flatMap_cons, List.flatMap_nil, List.drop_succ_cons, List.drop_zero, List.take_succ_cons, List.take_zero, List.cons_append, List.nil_append, List.append_nil]
  repeat (first
    | (refine wpReads_skip (by rfl) ?_; (try simp only [Act.put, List.setIfInBounds_toArray, List.set_cons_zero, List.set_cons_succ]))
    | (refine wpReads_cons ?_ (by rfl) (by rfl) ?_ ?_; rotate_left; (intro wz hz; (try dsimp only at hz); go_simp; try with_reducible rfl); (try simp only [Act.put, List.setIfInBounds_toArray, List.set_cons_zero, List.set_cons_succ]))
    | (refine wpReads_any ?_ (by rfl) ?_ ?_; rotate_left; (intro wz; go_simp; try with_reducible rfl); (try simp only [Act.put, List.setIfInBounds_toArray, List.set_cons_zero, List.set_cons_succ])))
  refine wpReads_nil ?_
  refine wpAnyT_one (i := 28) (by kernel_rfl) ?_
  simp only [pickOps, List.flatMap_cons, List.flatMap_nil, List.drop_succ_cons, List.drop_zero, List.take_succ_cons, List.take_zero, List.append_nil]
  go_wp2_with fail
  refine HCALL.out.mono ?_
  rintro e w2 ⟨o2, rfl, T, hF⟩
  have T0 : Turn o o2 C w w2 := ((Turn.refl o C w).drewN 2).trans T (fun _ h => h)
  have HT0 := Lib.hid T0
  have HF := Lib.hid hF
  have TA := H.out.turn T0 HC.out
  have HTA := Lib.hid TA
  have hb2 := TA.blk
  have no : ∀ j, j < 48 → ¬ C (M + j) := fun j hj hc => HC.out _ hc (by unfold MineT; omega)
  have d5 := T0.cell c5 (by show ¬ C (o b); rw [H.out.blk.2]; exact no 0 (by omega))
  have d7 := T0.cell c7 (by show ¬ C (o b); rw [H.out.blk.2]; exact no 0 (by omega))
  have d1 := T0.cell c1 (by show ¬ C (o b); rw [H.out.blk.2]; exact no 0 (by omega))
  have dh := T0.cell ch (by show ¬ C (o v.hand); rw [H.out.hand.blk.2]; exact no 7 (by omega))
  have d3 := T0.cell c3 (by show ¬ C (o b); rw [H.out.blk.2]; exact no 0 (by omega))
  have de := T0.cell e3 (by show ¬ C (o gd); rw [HCOL.out.1]; exact no 5 (by omega))
  have di := T0.cell i3 (by show ¬ C (o gi); rw [HCOL.out.2]; exact no 3 (by omega))
  have hcg := (T0.same gd (World.block_lt_of_cell? _ _ e3)).trans HCOL.out.1
  have hci := (T0.same gi (World.block_lt_of_cell? _ _ i3)).trans HCOL.out.2
  have HR2 := Lib.hid (HR.out.turn T0 (by have := H.out.few.2.2.1; have := HG.out.2.2.2.1; rw [Nat.add_assoc]; exact no _ (by omega)))
  clear T0 hF TA hb2 no T c5 c7 c1 ch c3 e3 i3
  go_wp2_with fail
  refine ⟨fun _ _ => ⟨d5, d7, dh, d1, de⟩, ?_⟩
  refine wpAnyT_one (i := 29) (by kernel_rfl) ?_
  simp only [pickOps, List.flatMap_cons, List.flatMap_nil, List.drop_succ_cons, List.drop_zero, List.take_succ_cons, List.take_zero, List.append_nil]
  go_wp2_with fail
  have hdi0 := Lib.hid di
  have hcg' := (ext_old (c := 0) (World.block_lt_of_cell? _ _ de)).trans hcg
  have hci' := (ext_old (c := 0) (World.block_lt_of_cell? _ _ di)).trans hci
  have HCOL2 := Lib.hid (And.intro hcg' hci')
  clear hcg hci hcg' hci'
  have Tb := Turn.of_below o2 0 (below_alloc w2 (.cells #[.int .i64 X] 3))
  have HTB := Lib.hid Tb
  have d5 := Tb.cell d5 (fun h => h)
  have d7 := Tb.cell d7 (fun h => h)
  have dh := Tb.cell dh (fun h => h)
  have d1 := Tb.cell d1 (fun h => h)
  have d3 := Tb.cell d3 (fun h => h)
  have de := Tb.cell de (fun h => h)
  have di := Tb.cell di (fun h => h)
  clear Tb
  refine ⟨fun _ _ => ⟨d5, d7, dh, d1, de⟩, ?_⟩
  refine wpAnyT_one (i := 30) (by kernel_rfl) ?_
  simp only [pickOps, List.flatMap_cons, List.flatMap_nil, List.drop_succ_cons, List.drop_zero, List.take_succ_cons, List.take_zero, List.append_nil]
  go_wp2_with (at_builtin; refine stop_here ?_)
  refine go_on ?_
  refine wpList_app_off rfl _ _ 22 rfl (ext o2 w2.heap.size 0) (M + 16 + p) 3 i0 _ 8 Try.underlying22 HI.out hz0 hz1 hz2 rfl (.slice ra L rc) (ivs l) rfl (by have := HR2.out.turn HTB.out (fun h => h); rw [HG.out.2.2.1] at this; exact this) (some ⟨w2.heap.size, 0, none⟩) 1 1 [.int .i64 X] rfl rfl (fun h => by cases h) (news_alloc w2 [.int .i64 X] 3) (by simp [Value.oneCell']) (by rw [ivs_len]; have := HLP.out; have := HG.out.2.2.1; unfold maxLen; omega) (grow_ok (by rw [ivs_len]; have := HLP.out; have := HG.out.2.2.1; omega)) ?_
  intro v7 w7 T7 O7
  obtain ⟨sp7, cp7, hv7⟩ := O7.slice
  have hv7n : (ivs l ++ [Value.int .i64 X]).length = L + 1 := by simp [ivs, HG.out.2.2.1]
  rw [hv7n] at hv7
  subst hv7
  have hOB : (ext o2 w2.heap.size 0) b = M := (HTB.out.same b (by have := HTA.out.blk.lt; exact this)).trans HTA.out.blk.2
  have TAb := HTA.out.turn HTB.out (fun _ h => h.elim)
  have hHB : (ext o2 w2.heap.size 0) v.hand = M + 7 := TAb.hand.blk.2
  have d5 := T7.cell d5 (by show ¬ _ = _; rw [hOB]; omega)
  have d7 := T7.cell d7 (by show ¬ _ = _; rw [hOB]; omega)
  have dh := T7.cell dh (by show ¬ _ = _; rw [hHB]; omega)
  have d1 := T7.cell d1 (by show ¬ _ = _; rw [hOB]; omega)
  have d3 := T7.cell d3 (by show ¬ _ = _; rw [hOB]; omega)
  have de := T7.cell de (by show ¬ (ext o2 w2.heap.size 0) gd = _; rw [HCOL2.out.1]; omega)
  have di := T7.cell di (by show ¬ (ext o2 w2.heap.size 0) gi = _; rw [HCOL2.out.2]; omega)
  have X7 := TAb.hand.blk.turn T7 (by omega)
  have fh := X7.frozen p
  have HT7 := Lib.hid T7
  have HO7 := Lib.hid O7
  have HTAB := Lib.hid TAb
  clear T7 O7 hOB hHB X7 hv7n TAb
  go_wp2_with fail
  refine ⟨fun _ => ⟨d5, d7, dh, d1, de⟩, ?_⟩
  refine wpAnyT_list (ks := [31, 32]) (fun _ _ hx h => ⟨hx.cell h.1, hx.cell h.2.1, hx.cell h.2.2.1, hx.cell h.2.2.2.1, hx.cell h.2.2.2.2⟩) (by kernel_rfl) ?_
  simp only [pickOps, List.flatMap_cons, List.flatMap_nil, List.drop_succ_cons, List.drop_zero, List.take_succ_cons, List.take_zero, List.cons_append, List.nil_append, List.append_nil]
  go_wp2_with fail
  have hO7 := HO7.out
  rw [show ivs l ++ [Value.int .i64 X] = ivs (l ++ [X]) by simp [ivs]] at hO7
  obtain ⟨TA8, S8⟩ := HTAB.out.handApp (by exact HG.out.2.2.2.1) HT7.out hO7
  have hb8 := TA8.blk
  unfold taskV at hb8
  have g7 := hb8.cell 7 _ rfl
  have g5 := hb8.cell 5 _ rfl
  have f7 := hb8.frozen 7
  change World.cell? _ _ = some (.slice (some ⟨v.hand, 0, none⟩) (ratesI g t).length (ratesI g t).length) at g5
  change World.cell? _ _ = some (.int .i64 (x.port : Int)) at g7
  rw [HG.out.2.1] at g7
  rw [HG.out.1] at g5
  have gh : (w7.setCell ⟨v.hand, p, none⟩ (.slice sp7 (L + 1) cp7)).cell? ⟨v.hand, p, none⟩ = some (.slice sp7 (L + 1) cp7) := TA8.hand.blk.cell p _ (by
    have : p < v.hvs.length := by rw [H.out.hand.len]; exact HG.out.2.2.2.1
    show (v.hvs.set p (.slice sp7 (L + 1) cp7)).toArray[p]? = _
    rw [List.getElem?_toArray, List.getElem?_set_self this])
  have g3 := S8.cell d3 (by show ¬ _ = _; rw [(HT7.out.same b HTAB.out.blk.lt).trans HTAB.out.blk.2]; omega)
  have gx := S8.cell di (by show ¬ _ = _; rw [(HT7.out.same gi (Nat.lt_of_lt_of_le (World.block_lt_of_cell? _ _ hdi0.out) (by simp))).trans HCOL2.out.2]; omega)
  have HTA8 := Lib.hid TA8
  have HS8 := Lib.hid S8
  clear TA8 S8 hb8 d5 d7 dh d1 d3 de di fh hO7
  refine wp_region_lex (fun w' => w'.cell? ⟨b, 5, none⟩ = some (.slice (some ⟨v.hand, 0, none⟩) n n) ∧ w'.cell? ⟨b, 7, none⟩ = some (.int .i64 (p : Int)) ∧ w'.cell? ⟨v.hand, p, none⟩ = some (.slice sp7 (L + 1) cp7) ∧ w'.cell? ⟨b, 3, none⟩ = some (.slice (some ⟨gi, fi, none⟩) n ci) ∧ w'.cell? ⟨gi, fi + p, none⟩ = some (.int .i64 RI)) [0, 1, 2, 3, 4, 5, 6, 7, 8, 9, 10, 11, 12, 13, 14, 15, 16, 17, 18, 19, 20, 21] [] (by kernel_rfl) (by kernel_rfl) rfl (fun _ _ hx h => ⟨hx.cell h.1, hx.cell h.2.1, hx.cell h.2.2.1, hx.cell h.2.2.2.1, hx.cell h.2.2.2.2⟩) ⟨g5, g7, gh, g3, gx⟩ ?_
  intro Q' hQ'
  simp only [pickOps, List.flatMap_cons, List.flatMap_nil, List.drop_succ_cons, List.drop_zero, List.take_succ_cons, List.take_zero, List.cons_append, List.nil_append, List.append_nil]
  repeat (first
    | (refine wpReads_skip (by rfl) ?_; (try simp only [Act.put, List.setIfInBounds_toArray, List.set_cons_zero, List.set_cons_succ]))
    | (refine wpReads_cons ?_ (by rfl) (by rfl) ?_ ?_; rotate_left; (intro wz hz; (try dsimp only at hz); go_simp; try with_reducible rfl); (try simp only [Act.put, List.setIfInBounds_toArray, List.set_cons_zero, List.set_cons_succ]))
    | (refine wpReads_any ?_ (by rfl) ?_ ?_; rotate_left; (intro wz; go_simp; try with_reducible rfl); (try simp only [Act.put, List.setIfInBounds_toArray, List.set_cons_zero, List.set_cons_succ])))
  refine wpReads_nil ?_
  have hST : Turn o2 (ext (ext o2 w2.heap.size 0) (w2.alloc (.cells #[.int .i64 X] 3)).heap.size (M + 16 + p)) (MineT M) w2 (w7.setCell ⟨v.hand, p, none⟩ (.slice sp7 (L + 1) cp7)) :=
    ((HTB.out.mono (D := MineT M) (fun _ h => h.elim)).trans (HT7.out.mono (D := MineT M) (fun c hc => by have := HTAB.out.few.2.2.1; have := HG.out.2.2.2.1; rw [hc]; unfold MineT; omega)) (fun _ h => h)).trans (HS8.out.mono (D := MineT M) (fun c hc => by rw [hc]; unfold MineT; omega)) (fun _ h => h)
  have HST := Lib.hid hST
  clear hST
  by_cases hLR : (L : Int) + 1 = RI
  · have hli : ((L : Int) + 1 == RI) = true := by rw [beq_iff_eq]; omega
    have hwr : IntKind.i64.wrap ((p : Int) + 1) = (p : Int) + 1 := IntWalk.i64_in _ (by omega)
    have HLR := Lib.hid hLR
    clear hLR
    obtain ⟨TA9, S9⟩ := HTA8.out.fields (x' := { x with hand := x.hand.set p (l ++ [X]), port := p + 1 }) (i := 7) (u := .int .i64 ((p : Int) + 1)) (by unfold taskV; simp) rfl rfl rfl rfl rfl
    have HTA9 := Lib.hid TA9
    have HS9 := Lib.hid S9
    clear TA9 S9
    go_wp2_with fail
    go_ret
    have hX : X' = { x with hand := x.hand.set p (l ++ [X]), port := p + 1 } := by
      rw [← HX'.out, HG.out.2.2.2.2.2.1, if_pos (by rw [HG.out.2.2.1]; exact HLR.out), HG.out.2.1]
    rw [hX]
    exact ⟨o2, w2, _, _, rfl, HT0.out, HF.out, (HST.out.trans (HS9.out.mono (mineT_self M)) (fun _ h => h)).drewN 1, HTA9.out.drewN 1⟩
  · have hli : ((L : Int) + 1 == RI) = false := by rw [beq_eq_false_iff_ne]; omega
    have HLR := Lib.hid hLR
    clear hLR
    go_wp2_with fail
    go_ret
    have hX : X' = { x with hand := x.hand.set p (l ++ [X]) } := by
      rw [← HX'.out, HG.out.2.2.2.2.2.1, if_neg (by rw [HG.out.2.2.1]; exact HLR.out), HG.out.2.1]
    rw [hX]
    exact ⟨o2, w2, _, _, rfl, HT0.out, HF.out, HST.out.drewN 1, HTA8.out.drewN 1⟩
end Go.Proofs.Ytaholpfikcdhbaa

/- A firing whose outcome is kept: each row in a colour of its own. -/
namespace Go.Proofs.Ytaholpfikcdhbaa
open Go.RowKit

section
variable {w : World} {o o' : Col}
theorem Vals.recolor {c : Nat} {v : Value} {vs : List Value} (h : Vals w o c v vs) (ho : ∀ k, o k = c → o' k = c) : Vals w o' c v vs := by
  rcases h with h | ⟨hp, b, off, cap, e, hl, hb, hc, hcl⟩
  · exact .inl h
  · exact .inr ⟨hp, b, off, cap, e, hl, hb, ho b hc, hcl⟩
theorem BodyAt.recol {c d b : Nat} {t : Int} {ps keep : List Int} {n : Int} {K : Nat} {vi vo vt vs : Value} (h : BodyAt w o c d b t ps keep n K vi vo vt vs) (hc : ∀ k, o k = c → o' k = c) (hd : ∀ k, o k = d → o' k = d) : BodyAt w o' c d b t ps keep n K vi vo vt vs :=
  ⟨h.body.recol (hd b h.body.2), h.kind.recol (hc K h.kind.2), h.ins.recolor hd, h.outs.recolor hd, fun e => ⟨(h.taps e).1.recolor hd, (h.taps e).2.1.recolor hd, (h.taps e).2.2⟩, h.good, h.fitp, h.fitk, h.keep1, h.keep2, h.fitn, h.ne⟩
theorem Act.recol {c d b : Nat} {t : Int} {ps keep : List Int} {n : Int} (h : Act w o c d b t ps keep n) (hc : ∀ k, o k = c → o' k = c) (hd : ∀ k, o k = d → o' k = d) : Act w o' c d b t ps keep n := by
  obtain ⟨K, vi, vo, vt, vs, h⟩ := h
  exact ⟨K, vi, vo, vt, vs, h.recol hc hd⟩
end
/-- rows just made -/
def GiftNew (w : World) (o : Col) (c d : Nat) (gv : Value) (l : List (List Int)) (vs : List Value) : Prop :=
  Own w o c 22 1 gv l.length vs ∧ vs.length = l.length ∧ ∀ k (h : k < l.length), OffRow w o (d + k) 3 (vs[k]?.getD undef) (ivs l[k])
open Classical in
theorem fire_gift {w : World} {o : Col} {c d b : Nat} {t : Int} {ps keep : List Int} {n : Int} {insv : Value} {xss : List (List Int)} (c8 d8 : Nat) (h : Act w o c d b t ps keep n) (hins : LL w insv xss) (hf : ∀ l ∈ xss, ∀ x ∈ l, Fits x) (hn1 : Fits (n + 1)) :
    Calls Try.prog 24 #[.pointer (some ⟨b, 0, none⟩), insv] w fun e w' => ∃ gv o' vs, e = .returned (.tuple #[gv, .int .i64 (shot t ps keep n xss).err]) ∧ Turn o o' (fun x => x = c) w w' ∧ Act w' o' c d b t ps (shot t ps keep n xss).keep (shot t ps keep n xss).n ∧ GiftNew w' o' c8 d8 gv (shot t ps keep n xss).outs vs := by
  obtain ⟨E, hE⟩ : ∃ E, E = c + d + 1 := ⟨_, rfl⟩
  obtain ⟨oz, hoz⟩ : ∃ oz : Col, oz = fun k => if o k = E then E + 1 else o k := ⟨_, rfl⟩
  have z1 : ∀ k, oz k ≠ E := fun k => by
    rw [hoz]
    show (if o k = E then E + 1 else o k) ≠ E
    split
    · omega
    · assumption
  have z2 : ∀ k, oz k ≠ E + 1 → oz k = o k := fun k => by
    rw [hoz]
    show (if o k = E then E + 1 else o k) ≠ E + 1 → (if o k = E then E + 1 else o k) = o k
    split
    · intro h; exact absurd rfl h
    · intro _; rfl
  have z3 : ∀ k, o k ≠ E → oz k = o k := fun k hk => by
    rw [hoz]
    show (if o k = E then E + 1 else o k) = o k
    rw [if_neg hk]
  have hz : Act w oz c d b t ps keep n := h.recol (fun k hk => by rw [z3 k (by omega), hk]) (fun k hk => by rw [z3 k (by omega), hk])
  refine (fire_uni E (by omega) hz hins hf hn1).mono ?_
  rintro e w' ⟨gv, o1, rfl, T, hA, vs, v1, v2, v3, v4, v5⟩
  obtain ⟨outs, hout⟩ : ∃ x, (shot t ps keep n xss).outs = x := ⟨_, rfl⟩
  rw [hout] at v1 v3 v4 v5 ⊢
  have new : ∀ k, o1 k = E → w.heap.size ≤ k := fun k hk => by
    rcases Nat.lt_or_ge k w.heap.size with h | h
    · rw [T.same k h] at hk
      exact absurd hk (z1 k)
    · exact h
  obtain ⟨o2, ho2⟩ : ∃ o2 : Col, o2 = fun k => if k < w.heap.size then o k else if gv.ownBlock = some k then c8 else if hj : ∃ j, j < outs.length ∧ (vs[j]?.getD undef).ownBlock = some k then d8 + Classical.choose hj else o1 k := ⟨_, rfl⟩
  have hold : ∀ k, k < w.heap.size → o2 k = o k := fun k hk => by rw [ho2]; exact if_pos hk
  have hel : ∀ k, o1 k ≠ E → w.heap.size ≤ k → o2 k = o1 k := fun k hk hs => by
    rw [ho2]
    show (if k < w.heap.size then o k else if gv.ownBlock = some k then c8 else if hj : ∃ j, j < outs.length ∧ (vs[j]?.getD undef).ownBlock = some k then d8 + Classical.choose hj else o1 k) = o1 k
    rw [if_neg (by omega), if_neg (fun hg => hk (v2.2 k hg)), dif_neg (fun hj => by
      obtain ⟨j, j1, j2⟩ := hj
      exact hk ((v3 j j1).2 k j2))]
  refine ⟨gv, o2, vs, rfl, ⟨T.mods.mono (fun k hk hc => ?_), hold⟩, hA.recol (fun k hk => ?_) (fun k hk => ?_), ?_, v1, fun j hj => ?_⟩
  · show o k = c
    have hc : oz k = c := hc
    rw [← z2 k (by omega)]
    exact hc
  · rcases Nat.lt_or_ge k w.heap.size with hs | hs
    · rw [T.same k hs] at hk
      rw [hold k hs, ← z2 k (by omega)]
      exact hk
    · rw [hel k (by omega) hs]
      exact hk
  · rcases Nat.lt_or_ge k w.heap.size with hs | hs
    · rw [T.same k hs] at hk
      rw [hold k hs, ← z2 k (by omega)]
      exact hk
    · rw [hel k (by omega) hs]
      exact hk
  · rw [← v1]
    refine v2.recol (fun k hk => ?_)
    have hs := new k (v2.2 k hk)
    rw [ho2]
    show (if k < w.heap.size then o k else if gv.ownBlock = some k then c8 else _) = c8
    rw [if_neg (by omega), if_pos hk]
  · have hr := v3 j hj
    rw [List.getElem?_eq_getElem hj] at hr
    refine OffRow.of_own (n := outs[j].length) (hr.recol (fun k hk => ?_))
    have hs := new k (hr.2 k hk)
    have hx : ∃ j, j < outs.length ∧ (vs[j]?.getD undef).ownBlock = some k := ⟨j, hj, hk⟩
    rw [ho2]
    show (if k < w.heap.size then o k else if gv.ownBlock = some k then c8 else if hj : ∃ j, j < outs.length ∧ (vs[j]?.getD undef).ownBlock = some k then d8 + Classical.choose hj else o1 k) = d8 + j
    rw [if_neg (by omega), if_neg (v5 j k hj hk), dif_pos hx]
    obtain ⟨y1, y2⟩ := Classical.choose_spec hx
    congr 1
    rcases Nat.lt_trichotomy (Classical.choose hx) j with hlt | heq | hgt
    · exact absurd hk (v4 _ j k hlt hj y2)
    · exact heq
    · exact absurd y2 (v4 j _ k hgt y1 hk)
theorem TaskAt.fired {w w2 : World} {o o2 : Col} {M b : Nat} {g : GGraph} {qs : Ptrs} {t : Nat} {x : TaskP} {v : TVals} {S : Shot} {gv : Value} {gs : List Value} (h : TaskAt w o M b g qs t x v) (T0 : Turn o o2 (fun c => c = M + 1) w w2) (hA : ∀ a, g.actors[t]? = some a → Act w2 o2 (M + 1) (M + 2) v.body a.tag a.params S.keep S.n) (hG : GiftNew w2 o2 (M + 8) (M + 32) gv S.outs gs) (hol : S.outs.length ≤ 16) :
    TaskAt (((w2.setCell ⟨b, 6, none⟩ gv).setCell ⟨b, 8, none⟩ (.bool true)).setCell ⟨b, 7, none⟩ (.int .i64 0)) o2 M b g qs t { x with keep := S.keep, n := S.n, gift := S.outs, gives := true, port := 0 } { v with gift := gv, gvs := gs } ∧ Turn o2 o2 (fun c => c = M) w2 (((w2.setCell ⟨b, 6, none⟩ gv).setCell ⟨b, 8, none⟩ (.bool true)).setCell ⟨b, 7, none⟩ (.int .i64 0)) := by
  obtain ⟨B1, S1⟩ := (h.blk.turn T0 (by omega)).set 6 gv
  obtain ⟨B2, S2⟩ := B1.set 8 (.bool true)
  obtain ⟨B3, S3⟩ := B2.set 7 (.int .i64 0)
  have SS := (S1.trans S2 (fun _ h => h)).trans S3 (fun _ h => h)
  have TS := (T0.mono (D := fun c => c = M + 1 ∨ c = M) (fun c hc => .inl hc)).trans (SS.mono (D := fun c => c = M + 1 ∨ c = M) (fun c hc => .inr hc)) (fun _ h => h)
  obtain ⟨f1, f2, f3, f4⟩ := h.few
  obtain ⟨g1, g2, g3⟩ := hG
  refine ⟨⟨?_, fun a ha => (hA a ha).turn SS (by omega) (by omega), h.ins.turn TS (by omega), h.outs.turn TS (by omega), h.src.turn TS (by omega), h.dst.turn TS (by omega), h.hand.turn TS (by omega) (fun k _ => by omega), .inr ⟨rfl, g1.turn SS (by omega), g2, fun k hk => (g3 k hk).turn SS (by omega)⟩, f1, f2, f3, hol⟩, SS⟩
  have hcs : (((taskV x v (ratesI g t).length).toArray.setIfInBounds 6 gv).setIfInBounds 8 (.bool true)).setIfInBounds 7 (.int .i64 0) = (taskV { x with keep := S.keep, n := S.n, gift := S.outs, gives := true, port := 0 } { v with gift := gv, gvs := gs } (ratesI g t).length).toArray := by
    unfold taskV
    simp
  rw [hcs] at B3
  exact B3
theorem TaskAt.failed {w w2 : World} {o o2 : Col} {M b : Nat} {g : GGraph} {qs : Ptrs} {t : Nat} {x : TaskP} {v : TVals} (h : TaskAt w o M b g qs t x v) (T0 : Turn o o2 (fun c => c = M + 1) w w2) (hA : ∀ a, g.actors[t]? = some a → Act w2 o2 (M + 1) (M + 2) v.body a.tag a.params x.keep x.n) : TaskAt w2 o2 M b g qs t x v :=
  ⟨h.blk.turn T0 (by omega), hA, h.ins.turn T0 (by omega), h.outs.turn T0 (by omega), h.src.turn T0 (by omega), h.dst.turn T0 (by omega), h.hand.turn T0 (by omega) (fun k _ => by omega), h.gift.turn T0 (by omega) (fun k _ => by omega), h.few⟩
theorem shot_fail {t : Int} {ps keep : List Int} {n : Int} {xss : List (List Int)} (h : (shot t ps keep n xss).err ≠ 0) : (shot t ps keep n xss).keep = keep ∧ (shot t ps keep n xss).n = n := by
  unfold shot at h ⊢
  split
  · rename_i hf
    rw [if_pos hf] at h
    split
    · rename_i hr
      rw [hr] at h
      exact absurd rfl h
    · exact ⟨rfl, rfl⟩
  · exact ⟨rfl, rfl⟩
theorem shot_few {g : GGraph} (hg : ActsOk g) {t : Nat} (ht : t < g.actors.length) {x : TaskP} (he : (shotP g t x).err = 0) : (shotP g t x).outs.length = (ratesO g t).length := by
  have ha : g.actors[t]? = some g.actors[t] := List.getElem?_eq_getElem ht
  have hgood := hg.good _ (List.getElem_mem ht)
  have eO : ratesO g t = outsP g.actors[t].tag g.actors[t].params := by unfold ratesO; rw [ha]
  have eS : shotP g t x = shot g.actors[t].tag g.actors[t].params x.keep x.n x.hand := by unfold shotP; rw [ha]
  rw [eS] at he ⊢
  unfold shot at he ⊢
  split
  · rename_i hfit
    rw [if_pos hfit] at he
    split
    · rename_i outs keep' hr
      have := congrArg List.length (reck_lens hgood hfit hr)
      rw [List.length_map] at this
      rw [eO]
      exact this
    · rename_i hr
      rw [hr] at he
      cases he
  · rename_i hfit
    rw [if_neg hfit] at he
    cases he
end Go.Proofs.Ytaholpfikcdhbaa

/- A region that draws its order: reads, then whatever is ready; what only looks at answers, later. No program in sight. -/
namespace Go.Proofs.Ytaholpfikcdhbaa
section
variable {P : Program} {md : Region.Mode} {ops : Array Oper} {Q : Exit → Go.Act → World → Prop} {S : World → Prop}

def closedB (md : Region.Mode) (ops : Array Oper) (listed : Array Bool) : Bool :=
  (List.range ops.size).all fun j => !(listed.getD j false) || (match ops[j]? with | none => true | some o => o.after.all fun e => !(Region.binds md e) || listed.getD e.on false)
theorem closedL_of_B {listed : Array Bool} (h : closedB md ops listed = true) : closedL md ops listed := by
  intro j oj hj hl e he hb
  have hlt := (Array.getElem?_eq_some_iff.1 hj).1
  have h1 := List.all_eq_true.1 h j (List.mem_range.2 hlt)
  rw [hl, hj] at h1
  simp only [Bool.not_true, Bool.false_or] at h1
  have h2 := Array.all_eq_true'.1 h1 e he
  rw [hb] at h2
  simpa using h2
def hbeB (md : Region.Mode) (ops : Array Oper) (reads M : List Nat) : Bool :=
  Region.noSelect ops && (reads.all fun i => anyAt ops i || (List.range ops.size).all fun j => madeB ops j || reads.contains j || M.contains j || behindB md ops ops.size j i)
theorem hbe_of {reads M : List Nat} (h : hbeB md ops reads M = true) : Region.noSelect ops = true ∧ ∀ i ∈ reads, anyAt ops i = false → ∀ j, j < ops.size → madeB ops j = true ∨ reads.contains j = true ∨ M.contains j = true ∨ behindB md ops ops.size j i = true := by
  simp only [hbeB, Bool.and_eq_true, List.all_eq_true, List.mem_range, Bool.or_eq_true] at h
  refine ⟨h.1, fun i hi hany j hj => ?_⟩
  rcases h.2 i hi with h0 | h0
  · rw [hany] at h0; cases h0
  rcases h0 j hj with ((h1 | h1) | h1) | h1
  · exact .inl h1
  · exact .inr (.inl h1)
  · exact .inr (.inr (.inl h1))
  · exact .inr (.inr (.inr h1))

theorem wp_region_drift {id : Nat} {l : List Oper} {a : Go.Act} {w : World} (S : World → Prop) (reads M r : List Nat) (n : Nat) (hm : P.follows .mixedOrders = true)
    (hB : (hbeB .any l.toArray reads M && stageHead .any l.toArray (fun _ => true) r (Array.replicate l.toArray.size false) && r.all fun i => reads.contains i) = true) (hlen : r.length + n = l.length) (hS : S w.drew)
    (h : ∀ Q' : Exit → Go.Act → World → Prop, (∀ a w, Q .normal a w → Q' .normal a w) → (∀ c a a' w, Q' (.panic c) a w → Q' (.panic c) a' w) → wpReads P l.toArray S (fun a' => wpAnyT P .any l.toArray Q' S (bsOf l.toArray reads M) n (setAll (Array.replicate l.length false) r) a' w.drew) (pickOps l.toArray r) a) : (Code.region id l.toArray true).wp P Q a w := by
  refine wp_region_noPanic ?_
  refine wp_region_any hm ?_
  simp only [Bool.and_eq_true] at hB
  obtain ⟨⟨hb, hl⟩, hr⟩ := hB
  obtain ⟨hsel, hbe⟩ := hbe_of hb
  refine wpAny_of_T (S := S) (B := bsOf l.toArray reads M) _ _ _ _ ?_
  have key := wpAnyT_reads (P := P) (md := .any) (Q := NoPanic Q) (S := S) (reads := reads) (M := M) (n := n) hsel (fun c a a' w h => h) hbe r (Array.replicate l.toArray.size false) a { w with drawn := w.drawn + 1 } (fun i hi => by simpa using List.all_eq_true.1 hr i hi)
    (fun j oj _ hl => by rw [getD_replicate_false] at hl; cases hl) hl hS (by simpa using h (NoPanic Q) (fun _ _ h => NoPanic.normal h) (fun c a a' w h => h))
  rw [hlen] at key
  simpa using key
/-- what looks at answers alone, in whatever order -/
theorem wpAnyT_later {reads M : List Nat} {r : List Nat} {n : Nat} {listed : Array Bool} {a : Go.Act} {w : World} (hQ : ∀ c a a' w, Q (.panic c) a w → Q (.panic c) a' w)
    (hB : (hbeB md ops reads M && closedB md ops listed && stageHead md ops (fun _ => true) r listed && r.all fun i => reads.contains i) = true) (hS : S w) (h : wpReads P ops S (fun a' => wpAnyT P md ops Q S (bsOf ops reads M) n (setAll listed r) a' w) (pickOps ops r) a) : wpAnyT P md ops Q S (bsOf ops reads M) (r.length + n) listed a w := by
  simp only [Bool.and_eq_true] at hB
  obtain ⟨⟨⟨hb, hc⟩, hl⟩, hr⟩ := hB
  obtain ⟨hsel, hbe⟩ := hbe_of hb
  exact wpAnyT_reads hsel hQ hbe r listed a w (fun i hi => by simpa using List.all_eq_true.1 hr i hi) (closedL_of_B hc) hl hS h
/-- three are ready -/
theorem wpAnyT_three {B : Nat → Bool} {n i k m : Nat} {listed : Array Bool} {a : Go.Act} {w : World} (hr : Region.ready md ops listed = [i, k, m]) (h : wpList P ops (EndK Q fun a' w' => (B i = true → S w → S w') ∧ wpAnyT P md ops Q S B n (listed.setIfInBounds i true) a' w') (pickOps ops [i]) a w)
    (h' : wpList P ops (EndK Q fun a' w' => (B k = true → S w → S w') ∧ wpAnyT P md ops Q S B n (listed.setIfInBounds k true) a' w') (pickOps ops [k]) a w)
    (h'' : wpList P ops (EndK Q fun a' w' => (B m = true → S w → S w') ∧ wpAnyT P md ops Q S B n (listed.setIfInBounds m true) a' w') (pickOps ops [m]) a w) : wpAnyT P md ops Q S B (n + 1) listed a w := by
  have hi : i ∈ Region.ready md ops listed := by rw [hr]; simp
  have hk : k ∈ Region.ready md ops listed := by rw [hr]; simp
  have hm : m ∈ Region.ready md ops listed := by rw [hr]; simp
  refine ⟨fun h0 => (by rw [h0] at hr; cases hr), fun j hj => ?_⟩
  rw [hr] at hj
  rcases List.mem_cons.1 hj with rfl | hj
  · exact wpOp_of_list (ready_lt hi) h
  rcases List.mem_cons.1 hj with rfl | hj
  · exact wpOp_of_list (ready_lt hk) h'
  · obtain rfl : j = m := by simpa using hj
    exact wpOp_of_list (ready_lt hm) h''
end
end Go.Proofs.Ytaholpfikcdhbaa

/- A task: a step that fires. -/
namespace Go.Proofs.Ytaholpfikcdhbaa
open Go.RowKit

theorem RowsAt.ll {w : World} {o : Col} {c d g : Nat} {l : List (List Int)} {vs : List Value} (h : RowsAt w o c d g l vs) : LL w (.slice (some ⟨g, 0, none⟩) l.length l.length) l := by
  have := vals_of_cells (w := w) (o := o) (c := c) (ao := some ⟨g, 0, none⟩) (vs := vs) (cap := l.length) (by rw [h.len]; exact Nat.le_refl _) (fun h => by cases h) (fun a ha => by cases ha; rfl) (fun ad had j u hu => by
    obtain rfl := Option.some.inj had
    rw [Addr.add_lit, Nat.zero_add]
    exact h.blk.cell j u (by simpa using hu)) (fun a ha _ => by cases ha; exact h.blk.2)
  rw [h.len] at this
  refine ⟨vs, h.len, this.has, fun k hk => ?_⟩
  have hr := (h.row k hk).vals.has
  rw [List.getElem?_eq_getElem (by rw [h.len]; exact hk), List.getElem?_eq_getElem hk]
  exact hr
/-- a step that fires: it may fail -/
def FireT (w : World) (o : Col) (M b : Nat) (g : GGraph) (qs : Ptrs) (t : Nat) (x : TaskP) (S : Shot) (x' : TaskP) (e : Ending) (w' : World) : Prop :=
  ∃ o' v', Turn o o' (MineT M) w w' ∧ ((S.err ≠ 0 ∧ e = .returned (.bool false) ∧ TaskAt w' o' M b g qs t x v') ∨ (S.err = 0 ∧ e = .returned (.bool true) ∧ TaskAt w' o' M b g qs t x' v'))
set_option maxRecDepth 100000 in
set_option maxHeartbeats 2000000 in
theorem tstep_fires {w : World} {o : Col} {M b s : Nat} {g : GGraph} {qs : Ptrs} {t : Nat} {x : TaskP} {v : TVals} (h : TaskAt w o M b g qs t x v) (hg : x.gives = false) (hO : TOk g t s x) (hga : ActsOk g) (ht : t < g.actors.length) (hs : s < 4611686018427387904) (hp : ¬ x.port < (ratesI g t).length) :
    Calls Try.prog 17 #[.pointer (some ⟨b, 0, none⟩)] w (FireT w o M b g qs t x (shotP g t x) (firedP (ratesI g t).length (ratesO g t).length x (shotP g t x))) := by
  obtain ⟨hgift, hpl, hfull, hnone, hless⟩ := hO.take hg
  have hwh : x.whole < 4611686018427387904 := by have := hO.whole; omega
  have hn1 : Fits (x.n + 1) := by have := hO.num; unfold Fits; omega
  have ha : g.actors[t]? = some g.actors[t] := List.getElem?_eq_getElem ht
  have hS : shotP g t x = shot g.actors[t].tag g.actors[t].params x.keep x.n x.hand := by unfold shotP; rw [ha]
  have hact := h.act _ ha
  have hfail : (shotP g t x).err ≠ 0 → (shotP g t x).keep = x.keep ∧ (shotP g t x).n = x.n := by rw [hS]; exact shot_fail
  have hfew : (shotP g t x).err = 0 → (shotP g t x).outs.length ≤ 16 := fun he => by rw [shot_few hga ht he]; exact h.few.2.1
  have HFA := Lib.hid (And.intro hfail (And.intro hfew ha))
  clear hfail hfew
  have hll := h.hand.ll
  rw [hO.hlen] at hll
  have hfire := fun m => fire_gift (M + 8) (M + 32) (hact.drewN m) (hll.below (below_dr (n := m) (Below.refl _ w))) hO.hfit hn1
  rw [← hS] at hfire
  have hb := h.blk
  unfold taskV at hb
  have c8 := hb.cell 8 _ rfl
  have c7 := hb.cell 7 _ rfl
  have c0 := hb.cell 0 _ rfl
  have c3 := hb.cell 3 _ rfl
  have c5 := hb.cell 5 _ rfl
  obtain ⟨ia, ic, hia⟩ := h.ins.slice
  change w.cell? _ = some v.ins at c3
  change w.cell? _ = some (.bool x.gives) at c8
  change w.cell? _ = some (.slice (some ⟨v.hand, 0, none⟩) (ratesI g t).length (ratesI g t).length) at c5
  change w.cell? _ = some (.int .i64 (x.port : Int)) at c7
  rw [hg] at c8
  rw [hia] at c3
  have hpe : x.port = (ratesI g t).length := by omega
  obtain ⟨n, hn⟩ : ∃ n, (ratesI g t).length = n := ⟨_, rfl⟩
  rw [hn] at c3 c5 hpe hfire
  rw [hpe] at c7
  have H := Lib.hid h
  have HF := Lib.hid (hfire 2)
  have HG := Lib.hid (And.intro hn (And.intro hg (And.intro hwh hgift)))
  obtain ⟨X', hX'⟩ : ∃ y, firedP n (ratesO g t).length x (shotP g t x) = y := ⟨_, rfl⟩
  rw [hn, hX']
  have HX' := Lib.hid hX'
  obtain ⟨er, her⟩ : ∃ y, (shotP g t x).err = y := ⟨_, rfl⟩
  have HER := Lib.hid her
  clear hX' h hg hO hgift hpl hfull hnone hless hn1 ha hact hll hfire hb hia hpe hn hwh hs hp her
  go_enter Try.func17, Try.ntmps17
  go_wp2_with fail
  refine wp_region_lex (fun w' => w'.cell? ⟨b, 7, none⟩ = some (.int .i64 (n : Int)) ∧ w'.cell? ⟨b, 3, none⟩ = some (.slice ia n ic)) [0, 1, 2, 3, 4, 5, 6, 7, 8, 9] [10] (by kernel_rfl) (by kernel_rfl) rfl (fun _ _ hx h => ⟨hx.cell h.1, hx.cell h.2⟩) ⟨c7, c3⟩ ?_
  intro Q' hQ'
  simp only [pickOps, List.flatMap_cons, List.flatMap_nil, List.drop_succ_cons, List.drop_zero, List.take_succ_cons, List.take_zero, List.cons_append, List.nil_append, List.append_nil]
  repeat (first
    | (refine wpReads_skip (by rfl) ?_; (try simp only [Act.put, List.setIfInBounds_toArray, List.set_cons_zero, List.set_cons_succ]))
    | (refine wpReads_cons ?_ (by rfl) (by rfl) ?_ ?_; rotate_left; (intro wz hz; (try dsimp only at hz); go_simp; try with_reducible rfl); (try simp only [Act.put, List.setIfInBounds_toArray, List.set_cons_zero, List.set_cons_succ]))
    | (refine wpReads_any ?_ (by rfl) ?_ ?_; rotate_left; (intro wz; go_simp; try with_reducible rfl); (try simp only [Act.put, List.setIfInBounds_toArray, List.set_cons_zero, List.set_cons_succ])))
  refine wpReads_nil ?_
  go_wp2_with fail
  refine wp_region_drift (fun w' => w'.cell? ⟨b, 0, none⟩ = some (.pointer (some ⟨v.body, 0, none⟩)) ∧ w'.cell? ⟨b, 5, none⟩ = some (.slice (some ⟨v.hand, 0, none⟩) n n)) [0, 1, 2, 3, 4, 5, 6, 7, 9, 10, 11] [] [0, 1, 2, 3, 4, 5, 6, 7] 6 (by kernel_rfl) (by kernel_rfl) rfl ⟨c0, c5⟩ ?_
  intro Q' hQ' hQ2
  simp only [pickOps, List.flatMap_cons, List.flatMap_nil, List.drop_succ_cons, List.drop_zero, List.take_succ_cons, List.take_zero, List.cons_append, List.nil_append, List.append_nil]
  repeat (first
    | (refine wpReads_skip (by rfl) ?_; (try simp only [Act.put, List.setIfInBounds_toArray, List.set_cons_zero, List.set_cons_succ]))
    | (refine wpReads_cons ?_ (by rfl) (by rfl) ?_ ?_; rotate_left; (intro wz hz; (try dsimp only at hz); go_simp; try with_reducible rfl); (try simp only [Act.put, List.setIfInBounds_toArray, List.set_cons_zero, List.set_cons_succ]))
    | (refine wpReads_any ?_ (by rfl) ?_ ?_; rotate_left; (intro wz; go_simp; try with_reducible rfl); (try simp only [Act.put, List.setIfInBounds_toArray, List.set_cons_zero, List.set_cons_succ])))
  refine wpReads_nil ?_
  refine wpAnyT_one (i := 8) (by kernel_rfl) ?_
  simp only [pickOps, List.flatMap_cons, List.flatMap_nil, List.drop_succ_cons, List.drop_zero, List.take_succ_cons, List.take_zero, List.append_nil]
  go_wp2_with fail
  refine HF.out.mono ?_
  rintro e w2 ⟨gv, o2, gs, rfl, T, A2, G2⟩
  obtain ⟨ga, gc, rfl⟩ := G2.1.slice
  obtain ⟨gl, hgl⟩ : ∃ y, (shotP g t x).outs.length = y := ⟨_, rfl⟩
  have HG2 := Lib.hid G2
  rw [hgl]
  have HGL := Lib.hid hgl
  have T0 := (((Turn.refl o (fun x => x = M + 1) w).drewN 2).trans T (fun _ h => h))
  have d0 := T0.cell c0 (by show ¬ o b = M + 1; rw [H.out.blk.2]; omega)
  have d5 := T0.cell c5 (by show ¬ o b = M + 1; rw [H.out.blk.2]; omega)
  have B2 := H.out.blk.turn T0 (by omega)
  have e6 := B2.cell 6 _ rfl
  have e7 := B2.cell 7 _ rfl
  have e8 := B2.cell 8 _ rfl
  have f6 := B2.frozen 6
  have f7 := B2.frozen 7
  have f8 := B2.frozen 8
  have HT0 := Lib.hid T0
  have HA2 := Lib.hid A2
  rw [HER.out]
  clear T A2 G2 T0 c0 c5 c7 c3 B2 hgl
  go_wp2_with fail
  refine ⟨(fun h => by cases h), ?_⟩
  refine wpAnyT_later (r := [9, 10, 11]) (n := 2) hQ2 (by kernel_rfl) ⟨d0, d5⟩ ?_
  simp only [pickOps, List.flatMap_cons, List.flatMap_nil, List.drop_succ_cons, List.drop_zero, List.take_succ_cons, List.take_zero, List.cons_append, List.nil_append, List.append_nil]
  repeat (first
    | (refine wpReads_skip (by rfl) ?_; (try simp only [Act.put, List.setIfInBounds_toArray, List.set_cons_zero, List.set_cons_succ]))
    | (refine wpReads_cons ?_ (by rfl) (by rfl) ?_ ?_; rotate_left; (intro wz hz; (try dsimp only at hz); go_simp; try with_reducible rfl); (try simp only [Act.put, List.setIfInBounds_toArray, List.set_cons_zero, List.set_cons_succ]))
    | (refine wpReads_any ?_ (by rfl) ?_ ?_; rotate_left; (intro wz; go_simp; try with_reducible rfl); (try simp only [Act.put, List.setIfInBounds_toArray, List.set_cons_zero, List.set_cons_succ])))
  refine wpReads_nil ?_
  clear hQ2
  refine wpAnyT_list (ks := [12, 13]) (fun _ _ hx h => ⟨hx.cell h.1, hx.cell h.2⟩) (by kernel_rfl) ?_
  simp only [pickOps, List.flatMap_cons, List.flatMap_nil, List.drop_succ_cons, List.drop_zero, List.take_succ_cons, List.take_zero, List.cons_append, List.nil_append, List.append_nil]
  by_cases hz : er = 0
  · have hei : (er != 0) = false := by rw [hz]; rfl
    have HZ := Lib.hid hz
    clear hz
    obtain ⟨TA4, S4⟩ := H.out.fired HT0.out (S := shotP g t x) (fun a ha => by rw [HFA.out.2.2] at ha; cases ha; exact HA2.out) HG2.out (HFA.out.2.1 (by rw [HER.out]; exact HZ.out))
    rw [HGL.out] at TA4 S4
    have HTA4 := Lib.hid TA4
    have HS4 := Lib.hid S4
    clear TA4 S4
    go_wp2_with fail
    refine (tfinish_any HTA4.out HG.out.2.2.1 (Nat.zero_le _)).mono ?_
    rintro e w5 ⟨o5, v5, rfl, T5, TA5⟩
    have HT5 := Lib.hid T5
    have HTA5 := Lib.hid TA5
    clear T5 TA5
    go_wp2_with fail
    go_ret
    refine ⟨o5, v5, ((HT0.out.mono (D := MineT M) (fun c hc => by rw [hc]; unfold MineT; omega)).trans (HS4.out.mono (mineT_self M)) (fun _ h => h)).trans HT5.out (fun _ h => h), .inr ⟨HER.out.trans HZ.out, rfl, ?_⟩⟩
    rw [← HX'.out, ← HG.out.1]
    exact HTA5.out
  · have hei : (er != 0) = true := by simpa using hz
    have HZ := Lib.hid hz
    clear hz
    go_wp2_with fail
    go_ret
    refine ⟨o2, v, HT0.out.mono (fun c hc => by rw [hc]; unfold MineT; omega), .inl ⟨by rw [HER.out]; exact HZ.out, rfl, H.out.failed HT0.out (fun a ha => ?_)⟩⟩
    rw [HFA.out.2.2] at ha
    cases ha
    have hh := HFA.out.1 (by rw [HER.out]; exact HZ.out)
    have hA := HA2.out
    rw [hh.1, hh.2] at hA
    exact hA
end Go.Proofs.Ytaholpfikcdhbaa

/- A task's step, over the rig in memory. -/
namespace Go.Proofs.Ytaholpfikcdhbaa
open Go.RowKit

theorem RigAt.stepped {w w2 w' : World} {o o2 o' : Col} {R b : Nat} {g : GGraph} {caps : List Int} {N N' : Nat} {qs : Ptrs} {r : RunP} {v : RVals} {C : Nat → Prop} {t : Nat} {x' : TaskP} {tv' : TVals} {strs' : Nat → List Int} {rows' : Nat → Value} (h : RigAt w o R b g caps N qs r v) (ht : t < g.actors.length) (T1 : Turn o o2 C w w2) (hC : ∀ k, C k → R + 4000 ≤ k ∧ k < R + 6000) (T2 : Turn o2 o' (MineT (R + 100 + 64 * t)) w2 w')
    (TA : TaskAt w' o' (R + 100 + 64 * t) (v.tb t) g qs t x' tv')
    (hq : ∀ d, d < g.edges.length + g.ins.length → QAt w' o' (R + 4000 + d) (qs d) (capD caps d) (strs' d) N')
    (htp : ∀ d, g.edges.length + g.ins.length ≤ d → d < g.edges.length + g.ins.length + g.outs.length → TapeAt w' o' (R + 4000 + d) (R + 5000 + d) (qs d) (rows' d) (strs' d)) :
    RigAt w' o' R b g caps N' qs ⟨⟨upd r.rig.tasks t x', strs'⟩, r.failed⟩ { v with tv := upd v.tv t tv', rows := rows' } ∧ Turn o o' (MineR R) w w' := by
  obtain ⟨f1, f2, f3, f4⟩ := h.few
  have TT := (T1.mono (D := fun k => (R + 4000 ≤ k ∧ k < R + 6000) ∨ MineT (R + 100 + 64 * t) k) (fun k hk => .inl (hC k hk))).trans (T2.mono (D := fun k => (R + 4000 ≤ k ∧ k < R + 6000) ∨ MineT (R + 100 + 64 * t) k) (fun k hk => .inr hk)) (fun _ h => h)
  have no : ∀ j, j < 100 → ¬ ((R + 4000 ≤ R + j ∧ R + j < R + 6000) ∨ MineT (R + 100 + 64 * t) (R + j)) := fun j hj => by unfold MineT; omega
  refine ⟨⟨h.blk.turn TT (no 0 (by omega)), h.tasks.turn TT (no 1 (by omega)), h.edges.turn TT (no 2 (by omega)), h.inputs.turn TT (no 3 (by omega)), h.tapes.turn TT (no 4 (by omega)), fun u hu => ?_, hq, htp, h.few⟩, TT.mono (fun k hk => ?_)⟩
  · show TaskAt w' o' (R + 100 + 64 * u) (v.tb u) g qs u (upd r.rig.tasks t x' u) (upd v.tv t tv' u)
    by_cases e : u = t
    · subst e
      rw [upd_same, upd_same]
      exact TA
    · rw [upd_other e, upd_other e]
      refine (h.task u hu).turn TT (fun k hk hm => ?_)
      unfold MineT at hm hk
      omega
  · unfold MineR
    rcases hk with hk | hk
    · omega
    · unfold MineT at hk; omega
/-- what a step comes to, in memory -/
def StepAt (w : World) (o : Col) (R b : Nat) (g : GGraph) (caps : List Int) (N : Nat) (qs : Ptrs) (r : RunP) (tb : Nat → Nat) (t : Nat) (e : Ending) (w' : World) : Prop :=
  ∃ o' v', Turn o o' (MineR R) w w' ∧ v'.tb = tb ∧ ((stepP g caps r.rig t = .fails ∧ e = .returned (.bool false) ∧ RigAt w' o' R b g caps (N + 1) qs r v') ∨ ∃ s', stepP g caps r.rig t = .goes s' ∧ e = .returned (.bool true) ∧ RigAt w' o' R b g caps (N + 1) qs ⟨s', r.failed⟩ v')
theorem tstep_give {w : World} {o : Col} {R b : Nat} {g : GGraph} {caps : List Int} {N s : Nat} {qs : Ptrs} {r : RunP} {v : RVals} (h : RigAt w o R b g caps N qs r v) (hL : Linked g) (hcl : caps.length = g.edges.length) (hK : ROk g s r.rig) (hs : s < 4611686018427387904) (hN : N < 27000000000000) (hln : ∀ d, (r.rig.strs d).length ≤ N) {t : Nat} (ht : t < g.actors.length) (hr : isReady g caps r.rig t = true) (hg : (r.rig.tasks t).gives = true) :
    Calls Try.prog 17 #[ptrV (v.tb t)] w (StepAt w o R b g caps N qs r v.tb t) := by
  have hT := h.task t ht
  have hO := hK.task t ht
  obtain ⟨f1, f2, f3, f4⟩ := h.few
  have hp := (hO.give hg).1
  rw [ready_gives ht hg] at hr
  have hnf : fullP caps r.rig (toP g t (r.rig.tasks t).port) = false := by simpa using hr
  have hstep : stepP g caps r.rig t = .goes ⟨upd r.rig.tasks t (gaveP (ratesI g t).length (ratesO g t).length (r.rig.tasks t)), upd r.rig.strs (toP g t (r.rig.tasks t).port) (r.rig.strs (toP g t (r.rig.tasks t).port) ++ [nextP (r.rig.tasks t)])⟩ := by
    unfold stepP
    rw [if_neg (by omega), if_pos hg, if_neg (by simp [hnf])]
  have hout := hL.out t _ ht hp
  obtain ⟨d, hd⟩ : ∃ d, toP g t (r.rig.tasks t).port = d := ⟨_, rfl⟩
  rw [hd] at hnf hstep hout
  have hmt : ∀ k, R + 4000 ≤ k → ¬ MineT (R + 100 + 64 * t) k := fun k hk hm => by unfold MineT at hm; omega
  have fin : ∀ {C : Nat → Prop} {F : Col → World → Prop}, (∀ k, C k → k = R + 4000 + d ∨ k = R + 5000 + d) → d < g.edges.length + g.ins.length + g.outs.length →
      (∀ o2 w2 o' w', F o2 w2 → Turn o2 o' (MineT (R + 100 + 64 * t)) w2 w' → ∃ rw', (d < g.edges.length + g.ins.length → QAt w' o' (R + 4000 + d) (qs d) (capD caps d) (r.rig.strs d ++ [nextP (r.rig.tasks t)]) (N + 1)) ∧ (g.edges.length + g.ins.length ≤ d → TapeAt w' o' (R + 4000 + d) (R + 5000 + d) (qs d) rw' (r.rig.strs d ++ [nextP (r.rig.tasks t)]))) →
      ∀ e w', StepT w o C F (R + 100 + 64 * t) (v.tb t) g qs t (gaveP (ratesI g t).length (ratesO g t).length (r.rig.tasks t)) e w' → StepAt w o R b g caps N qs r v.tb t e w' := by
    intro C F hC hdl hF e w' ⟨o2, w2, o', v', he, T1, hf, T2, TA⟩
    obtain ⟨rw', q1, q2⟩ := hF o2 w2 o' w' hf T2
    obtain ⟨K, TT⟩ := h.stepped (strs' := upd r.rig.strs d (r.rig.strs d ++ [nextP (r.rig.tasks t)])) (rows' := upd v.rows d rw') (N' := N + 1) ht T1 (fun k hk => by rcases hC k hk with h | h <;> omega) T2 TA (fun u hu => by
      by_cases e : u = d
      · subst e
        rw [upd_same]
        exact q1 hu
      · rw [upd_other e]
        exact (((h.queue u hu).turn T1 (fun hk => by rcases hC _ hk with h | h <;> omega)).turn T2 (hmt _ (by omega))).mono (by omega)) (fun u hu hu2 => by
      by_cases e : u = d
      · subst e
        rw [upd_same, upd_same]
        exact q2 hu
      · rw [upd_other e, upd_other e]
        obtain ⟨k1, k2⟩ := h.tape u hu hu2
        exact ⟨(k1.turn T1 (fun hk => by rcases hC _ hk with h | h <;> omega)).turn T2 (hmt _ (by omega)), (k2.turn T1 (fun hk => by rcases hC _ hk with h | h <;> omega)).turn T2 (hmt _ (by omega))⟩)
    exact ⟨o', { v with tv := upd v.tv t v', rows := upd v.rows d rw' }, TT, rfl, .inr ⟨_, hstep, he, K⟩⟩
  by_cases hed : d < g.edges.length
  · have hq := (h.queue d (by omega))
    have hcap : ((r.rig.strs d).length : Int) < capD caps d := by
      rw [full_edge (by omega)] at hnf
      have := of_decide_eq_false hnf
      omega
    refine (tstep_gives (C := fun x => x = R + 4000 + d) (F := fun o' w' => QAt w' o' (R + 4000 + d) (qs d) (capD caps d) (r.rig.strs d ++ [nextP (r.rig.tasks t)]) (N + 1)) (f := 15) (ty := 43) (cv := .agg #[.pointer (some ⟨qs d, 0, none⟩)]) hT hg hO hs (disp_cgive _) (fun args w => Try.call15 args w) (by unfold dstV; rw [hd, if_pos hed]) (fun k hk => hmt k (by omega)) ?_).mono (fin (fun k hk => .inl hk) (by omega) (fun o2 w2 o' w' hf T2 => ⟨.slice none 0 0, fun _ => hf.turn T2 (hmt _ (by omega)), fun hh => by omega⟩))
    refine (cgive_any _ (hq.turn ((Turn.refl o (fun _ => False) w).drew) (fun h => h)) hN hcap).mono ?_
    rintro e w' ⟨o', rfl, T, Q⟩
    exact ⟨o', rfl, T, Q⟩
  · have hr2 : g.edges.length + g.ins.length ≤ d ∧ d < g.edges.length + g.ins.length + g.outs.length := by
      rcases hout with h | h
      · exact absurd h hed
      · exact h
    have htape := h.tape d hr2.1 hr2.2
    refine (tstep_gives (C := fun x => x = R + 4000 + d ∨ x = R + 5000 + d) (F := fun o' w' => ∃ rw', TapeAt w' o' (R + 4000 + d) (R + 5000 + d) (qs d) rw' (r.rig.strs d ++ [nextP (r.rig.tasks t)])) (f := 73) (ty := 48) (cv := .pointer (some ⟨qs d, 0, none⟩)) hT hg hO hs (disp_tgive _) (fun args w => Try.call73 args w) (by unfold dstV; rw [hd, if_neg hed]) (fun k hk => hmt k (by omega)) ?_).mono (fin (fun k hk => hk) hr2.2 (fun o2 w2 o' w' hf T2 => by
      obtain ⟨rw', k1, k2⟩ := hf
      exact ⟨rw', fun hh => by omega, fun _ => ⟨k1.turn T2 (hmt _ (by omega)), k2.turn T2 (hmt _ (by omega))⟩⟩))
    have T0 := (Turn.refl o (fun _ => False) w).drew
    refine (tgive_any _ (⟨htape.1.turn T0 (fun h => h), htape.2.turn T0 (fun h => h)⟩ : TapeAt w.drew o (R + 4000 + d) (R + 5000 + d) (qs d) (v.rows d) (r.rig.strs d)) (by omega) (by have := hln d; omega)).mono ?_
    rintro e w' ⟨o', rw', rfl, T, Q⟩
    exact ⟨o', rfl, T, rw', Q⟩
end Go.Proofs.Ytaholpfikcdhbaa

/- A task's step, over the rig in memory: takes, fires; whichever. -/
namespace Go.Proofs.Ytaholpfikcdhbaa
open Go.RowKit

theorem tstep_take {w : World} {o : Col} {R b : Nat} {g : GGraph} {caps : List Int} {N s : Nat} {qs : Ptrs} {r : RunP} {v : RVals} (h : RigAt w o R b g caps N qs r v) (hL : Linked g) (hga : ActsOk g) (hK : ROk g s r.rig) (hN : N < 27000000000000) {t : Nat} (ht : t < g.actors.length) (hr : isReady g caps r.rig t = true) (hg : (r.rig.tasks t).gives = false) (hp : (r.rig.tasks t).port < (ratesI g t).length) :
    Calls Try.prog 17 #[ptrV (v.tb t)] w (StepAt w o R b g caps N qs r v.tb t) := by
  have hT := h.task t ht
  have hO := hK.task t ht
  obtain ⟨f1, f2, f3, f4⟩ := h.few
  rw [ready_takes ht hg hp] at hr
  have hdl := hL.inn t _ ht hp
  obtain ⟨d, hd⟩ : ∃ d, fromP g t (r.rig.tasks t).port = d := ⟨_, rfl⟩
  rw [hd] at hr hdl
  obtain ⟨X, l, hXl⟩ : ∃ X l, r.rig.strs d = X :: l := by
    cases hh : r.rig.strs d with
    | nil => rw [hh] at hr; simp at hr
    | cons X l => exact ⟨X, l, rfl⟩
  have hstep : stepP g caps r.rig t = .goes ⟨upd r.rig.tasks t (tookP (rI g t (r.rig.tasks t).port) (r.rig.tasks t) X), upd r.rig.strs d l⟩ := by
    unfold stepP
    rw [if_neg (by omega), if_neg (by simp [hg]), if_pos hp, hd, hXl]
    rfl
  have hmt : ∀ k, R + 4000 ≤ k → ¬ MineT (R + 100 + 64 * t) k := fun k hk hm => by unfold MineT at hm; omega
  have hq := h.queue d hdl
  rw [hXl] at hq
  refine (tstep_takes (C := fun x => x = R + 4000 + d) (F := fun o' w' => QAt w' o' (R + 4000 + d) (qs d) (capD caps d) l N) (X := X) hT hg hO hga hp (fun k hk => hmt k (by omega)) (fun m => ?_)).mono ?_
  · rw [hd]
    refine (ctake_any (hq.turn ((Turn.refl o (fun _ => False) w).drewN m) (fun h => h)) (by omega)).mono ?_
    rintro e w' ⟨o', rfl, T, Q⟩
    exact ⟨o', rfl, T, Q⟩
  · rintro e w' ⟨o2, w2, o', v', he, T1, hf, T2, TA⟩
    obtain ⟨K, TT⟩ := h.stepped (strs' := upd r.rig.strs d l) (rows' := v.rows) (N' := N + 1) ht T1 (fun k hk => by omega) T2 TA (fun u hu => by
      by_cases e : u = d
      · subst e
        rw [upd_same]
        exact (hf.turn T2 (hmt _ (by omega))).mono (by omega)
      · rw [upd_other e]
        exact (((h.queue u hu).turn T1 (fun hk => by omega)).turn T2 (hmt _ (by omega))).mono (by omega)) (fun u hu hu2 => by
      have e : u ≠ d := by omega
      rw [upd_other e]
      obtain ⟨k1, k2⟩ := h.tape u hu hu2
      exact ⟨(k1.turn T1 (fun hk => by omega)).turn T2 (hmt _ (by omega)), (k2.turn T1 (fun hk => by omega)).turn T2 (hmt _ (by omega))⟩)
    exact ⟨o', { v with tv := upd v.tv t v', rows := v.rows }, TT, rfl, .inr ⟨_, hstep, he, K⟩⟩
theorem upd_self {α : Type} (f : Nat → α) (i : Nat) : upd f i (f i) = f := by
  funext j
  unfold upd
  split
  · rename_i h; rw [h]
  · rfl
theorem tstep_fire {w : World} {o : Col} {R b : Nat} {g : GGraph} {caps : List Int} {N s : Nat} {qs : Ptrs} {r : RunP} {v : RVals} (h : RigAt w o R b g caps N qs r v) (hga : ActsOk g) (hK : ROk g s r.rig) (hs : s < 4611686018427387904) {t : Nat} (ht : t < g.actors.length) (hg : (r.rig.tasks t).gives = false) (hp : ¬ (r.rig.tasks t).port < (ratesI g t).length) :
    Calls Try.prog 17 #[ptrV (v.tb t)] w (StepAt w o R b g caps N qs r v.tb t) := by
  have hT := h.task t ht
  have hO := hK.task t ht
  obtain ⟨f1, f2, f3, f4⟩ := h.few
  have hmt : ∀ k, R + 4000 ≤ k → ¬ MineT (R + 100 + 64 * t) k := fun k hk hm => by unfold MineT at hm; omega
  refine (tstep_fires hT hg hO hga ht hs hp).mono ?_
  rintro e w' ⟨o', v', T2, hh⟩
  have fin : ∀ x', TaskAt w' o' (R + 100 + 64 * t) (v.tb t) g qs t x' v' → RigAt w' o' R b g caps (N + 1) qs ⟨⟨upd r.rig.tasks t x', r.rig.strs⟩, r.failed⟩ { v with tv := upd v.tv t v', rows := v.rows } ∧ Turn o o' (MineR R) w w' := fun x' TA =>
    h.stepped (C := fun _ => False) (strs' := r.rig.strs) (rows' := v.rows) (N' := N + 1) ht (Turn.refl _ _ _) (fun k hk => hk.elim) T2 TA (fun u hu => ((h.queue u hu).turn T2 (hmt _ (by omega))).mono (by omega)) (fun u hu hu2 => by
      obtain ⟨k1, k2⟩ := h.tape u hu hu2
      exact ⟨k1.turn T2 (hmt _ (by omega)), k2.turn T2 (hmt _ (by omega))⟩)
  rcases hh with ⟨he, hv, TA⟩ | ⟨he, hv, TA⟩
  · obtain ⟨K, TT⟩ := fin _ TA
    rw [upd_self] at K
    refine ⟨o', { v with tv := upd v.tv t v', rows := v.rows }, TT, rfl, .inl ⟨?_, hv, K⟩⟩
    exact step_fails.2 ⟨ht, hg, hp, he⟩
  · obtain ⟨K, TT⟩ := fin _ TA
    refine ⟨o', { v with tv := upd v.tv t v', rows := v.rows }, TT, rfl, .inr ⟨_, ?_, hv, K⟩⟩
    unfold stepP
    rw [if_neg (by omega), if_neg (by simp [hg]), if_neg hp, if_neg (by simp [he])]
/-- a ready task's step -/
theorem tstep_any {w : World} {o : Col} {R b : Nat} {g : GGraph} {caps : List Int} {N s : Nat} {qs : Ptrs} {r : RunP} {v : RVals} (h : RigAt w o R b g caps N qs r v) (hL : Linked g) (hga : ActsOk g) (hcl : caps.length = g.edges.length) (hK : ROk g s r.rig) (hs : s < 4611686018427387904) (hN : N < 27000000000000) (hln : ∀ d, (r.rig.strs d).length ≤ N) {t : Nat} (ht : t < g.actors.length) (hr : isReady g caps r.rig t = true) :
    Calls Try.prog 17 #[ptrV (v.tb t)] w (StepAt w o R b g caps N qs r v.tb t) := by
  by_cases hg : (r.rig.tasks t).gives = true
  · exact tstep_give h hL hcl hK hs hN hln ht hr hg
  · have hg : (r.rig.tasks t).gives = false := by simpa using hg
    by_cases hp : (r.rig.tasks t).port < (ratesI g t).length
    · exact tstep_take h hL hga hK hN ht hr hg hp
    · exact tstep_fire h hga hK hs ht hg hp
end Go.Proofs.Ytaholpfikcdhbaa

/- Rig.Step. -/
namespace Go.Proofs.Ytaholpfikcdhbaa
open Go.RowKit

theorem RigAt.mono {w : World} {o : Col} {R b : Nat} {g : GGraph} {caps : List Int} {N N' : Nat} {qs : Ptrs} {r : RunP} {v : RVals} (h : RigAt w o R b g caps N qs r v) (hN : N ≤ N') : RigAt w o R b g caps N' qs r v := { h with queue := fun d hd => (h.queue d hd).mono hN }
theorem RigAt.below {w w' : World} {o : Col} {R b : Nat} {g : GGraph} {caps : List Int} {N : Nat} {qs : Ptrs} {r : RunP} {v : RVals} (h : RigAt w o R b g caps N qs r v) (hb : Below w.heap.size w w') : RigAt w' (ext o w.heap.size 0) R b g caps N qs r v := h.turn (Turn.of_below o 0 hb) (fun _ h => h.elim)
theorem RigAt.setFail {w : World} {o : Col} {R b : Nat} {g : GGraph} {caps : List Int} {N : Nat} {qs : Ptrs} {r : RunP} {v : RVals} (h : RigAt w o R b g caps N qs r v) (t : Nat) : RigAt (w.setCell ⟨b, 4, none⟩ (.int .i64 (t : Int))) o R b g caps N qs ⟨r.rig, some t⟩ v ∧ Turn o o (MineR R) w (w.setCell ⟨b, 4, none⟩ (.int .i64 (t : Int))) := by
  obtain ⟨B, S⟩ := h.blk.set 4 (.int .i64 (t : Int))
  obtain ⟨f1, f2, f3, f4⟩ := h.few
  refine ⟨⟨?_, h.tasks.turn S (by omega), h.edges.turn S (by omega), h.inputs.turn S (by omega), h.tapes.turn S (by omega), fun u hu => (h.task u hu).turn S (fun k hk hm => by unfold MineT at hm; omega), fun d hd => (h.queue d hd).turn S (by omega), fun d hd hd2 => ⟨(h.tape d hd hd2).1.turn S (by omega), (h.tape d hd hd2).2.turn S (by omega)⟩, h.few⟩, S.mono (fun k hk => by rw [hk]; unfold MineR; omega)⟩
  have hcs : (rigV r v).toArray.setIfInBounds 4 (.int .i64 (t : Int)) = (rigV ⟨r.rig, some t⟩ v).toArray := by unfold rigV; simp
  rw [hcs] at B
  exact B
/-- a step of the task of that number -/
def stepI (g : GGraph) (caps : List Int) (r : RunP) (k : Int) : RunP × Bool := if k < 0 then (r, false) else stepR g caps r k.toNat
def Stepped (w : World) (o : Col) (R b : Nat) (g : GGraph) (caps : List Int) (N : Nat) (qs : Ptrs) (v : RVals) (x : RunP × Bool) (e : Ending) (w' : World) : Prop :=
  ∃ o' v', e = .returned (.bool x.2) ∧ Turn o o' (MineR R) w w' ∧ v'.tb = v.tb ∧ RigAt w' o' R b g caps (N + 1) qs x.1 v'
theorem step_idle {g : GGraph} {caps : List Int} {r : RunP} {t : Nat} (h : g.actors.length ≤ t ∨ isReady g caps r.rig t = false) : stepR g caps r t = (r, false) := by
  have : stepP g caps r.rig t = .waits := by
    rcases h with h | h
    · unfold stepP; rw [if_pos h]
    · unfold isReady at h
      cases hs : stepP g caps r.rig t with
      | waits => rfl
      | fails => rw [hs] at h; cases h
      | goes s => rw [hs] at h; cases h
  unfold stepR
  rw [this]
  cases r.failed <;> rfl
set_option maxRecDepth 100000 in
set_option maxHeartbeats 2000000 in
theorem dStep_any {w : World} {o : Col} {R b : Nat} {g : GGraph} {caps : List Int} {N s : Nat} {qs : Ptrs} {r : RunP} {v : RVals} (k : Int) (h : RigAt w o R b g caps N qs r v) (hL : Linked g) (hga : ActsOk g) (hcl : caps.length = g.edges.length) (hK : ROk g s r.rig) (hs : s < 4611686018427387904) (hN : N < 27000000000000) (hln : ∀ d, (r.rig.strs d).length ≤ N) :
    Calls Try.prog 6 #[.pointer (some ⟨b, 0, none⟩), .int .i64 k] w (Stepped w o R b g caps N qs v (stepI g caps r k)) := by
  have hb := h.blk
  unfold rigV at hb
  have c0 := hb.cell 0 _ rfl
  have c4 := hb.cell 4 _ rfl
  change w.cell? _ = some v.tasks at c0
  have H := Lib.hid h
  have hself : Stepped w o R b g caps N qs v (r, false) (.returned (.bool false)) w := ⟨o, v, rfl, Turn.refl _ _ _, rfl, h.mono (by omega)⟩
  obtain ⟨X, hX⟩ : ∃ x, stepI g caps r k = x := ⟨_, rfl⟩
  rw [hX]
  have HSF := Lib.hid hself
  obtain ⟨ta, tc, e1⟩ := h.tasks.slice
  rw [List.length_map, List.length_range] at e1
  rw [e1] at c0
  obtain ⟨n, hn⟩ : ∃ n, g.actors.length = n := ⟨_, rfl⟩
  rw [hn] at c0
  clear hself hb
  cases hf : r.failed with
  | some t =>
    rw [hf] at c4
    change w.cell? _ = some (.int .i64 (t : Int)) at c4
    have ht0 : (0 : Int) ≤ (t : Int) := by omega
    have hXe : X = (r, false) := by
      rw [← hX]
      unfold stepI stepR
      rw [hf]
      split <;> rfl
    rw [hXe]
    clear h hX hXe e1 hn hL hga hcl hK hs hN hln hf
    go_enter Try.func6, Try.ntmps6
    go_wp2_with fail
    go_ret
    exact HSF.out
  | none =>
    rw [hf] at c4
    change w.cell? _ = some (.int .i64 (-1)) at c4
    have hm1 : ¬ (0 : Int) ≤ (-1 : Int) := by omega
    by_cases hk0 : k < 0
    · have hXe : X = (r, false) := by
        rw [← hX]
        unfold stepI
        rw [if_pos hk0]
      rw [hXe]
      clear h hX hXe e1 hn hL hga hcl hK hs hN hln hf
      go_enter Try.func6, Try.ntmps6
      go_wp2_with fail
      go_ret
      exact HSF.out
    · obtain ⟨t, rfl⟩ : ∃ t : Nat, k = t := ⟨k.toNat, by omega⟩
      by_cases htn : n ≤ t
      · have hXe : X = (r, false) := by
          rw [← hX]
          unfold stepI
          rw [if_neg (by omega)]
          exact step_idle (.inl (by simp; omega))
        rw [hXe]
        have hti : (n : Int) ≤ (t : Int) := by omega
        clear h hX hXe e1 hn hL hga hcl hK hs hN hln hf htn
        go_enter Try.func6, Try.ntmps6
        go_wp2_with fail
        go_ret
        exact HSF.out
      · have htn : t < n := by omega
        have ht : t < g.actors.length := by omega
        have hti : ¬ (n : Int) ≤ (t : Int) := by omega
        have hti2 : (t : Int) < (n : Int) := by omega
        obtain ⟨gt, ft, ct, u1, u2, u3, ucol⟩ := vals_at2 h.tasks (k := t) (by simpa using ht)
        simp only [List.length_map, List.length_range, List.getElem_map, List.getElem_range] at u1 u2 u3
        rw [e1, hn] at u1
        simp only [Value.slice.injEq] at u1
        obtain ⟨rfl, -, rfl⟩ := u1
        rw [hn] at u2
        have hcti : (n : Int) ≤ tc := by omega
        obtain ⟨tb, htb⟩ : ∃ x, v.tb t = x := ⟨_, rfl⟩
        rw [htb] at u3
        change w.cell? _ = some (.pointer (some ⟨tb, 0, none⟩)) at u3
        have hrd := tready_any h hL hcl hK (by omega) ht
        rw [htb] at hrd
        obtain ⟨z, hz⟩ : ∃ z, isReady g caps r.rig t = z := ⟨_, rfl⟩
        rw [hz] at hrd
        change Calls Try.prog 16 #[.pointer (some ⟨tb, 0, none⟩)] w _ at hrd
        have HRD := Lib.hid hrd
        have hstp : ∀ w1, Below w.heap.size w w1 → z = true → Calls Try.prog 17 #[.pointer (some ⟨tb, 0, none⟩)] w1 (StepAt w1 (ext o w.heap.size 0) R b g caps N qs r v.tb t) := fun w1 hb1 hz1 => by
          have := tstep_any (h.below hb1) hL hga hcl hK hs hN hln ht (by rw [hz]; exact hz1)
          rw [htb] at this
          exact this
        have HST := Lib.hid hstp
        have HX := Lib.hid hX
        have HZ := Lib.hid hz
        have HFA := Lib.hid hf
        have HTN := Lib.hid ht
        clear h hX e1 hn hL hga hcl hK hs hN hln hf htn ht hrd hstp hz htb ucol u2
        go_enter Try.func6, Try.ntmps6
        go_wp2_with fail
        refine HRD.out.mono ?_
        rintro e w1 ⟨rfl, hb1⟩
        have c0 := cell_later hb1 c0
        have u3 := cell_later hb1 u3
        have HB1 := Lib.hid hb1
        clear hb1
        cases z with
        | false =>
          go_wp2_with fail
          go_ret
          have hXe : X = (r, false) := by
            rw [← HX.out]
            unfold stepI
            rw [if_neg (by omega)]
            exact step_idle (.inr (by simpa using HZ.out))
          rw [hXe]
          exact ⟨_, v, rfl, (Turn.of_below o 0 HB1.out).mono (fun _ h => h.elim), rfl, (H.out.below HB1.out).mono (by omega)⟩
        | true =>
          go_wp2_with fail
          refine (HST.out _ HB1.out (by simp)).mono ?_
          rintro e w2 ⟨o2, v2, T2, ht2, hh⟩
          have HT2 := Lib.hid (((Turn.of_below o 0 HB1.out).mono (D := MineR R) (fun _ h => h.elim)).trans T2 (fun _ h => h))
          have HTB2 := Lib.hid ht2
          clear T2 ht2
          rcases hh with ⟨q1, rfl, q2⟩ | ⟨s', q1, rfl, q2⟩
          · have hXe : X = (⟨r.rig, some t⟩, true) := by
              rw [← HX.out]
              unfold stepI stepR
              rw [if_neg (by omega), HFA.out]
              simp only [Int.toNat_natCast]
              rw [q1]
            obtain ⟨K, TF⟩ := q2.setFail t
            have f4 := q2.blk.frozen 4
            have d4 := q2.blk.cell 4 _ rfl
            have HK := Lib.hid K
            have HTF := Lib.hid TF
            have HXE := Lib.hid hXe
            clear K TF q1 q2 hXe
            go_wp2_with fail
            go_ret
            rw [HXE.out]
            exact ⟨o2, v2, rfl, HT2.out.trans HTF.out (fun _ h => h), HTB2.out, HK.out⟩
          · have hXe : X = (⟨s', none⟩, true) := by
              rw [← HX.out]
              unfold stepI stepR
              rw [if_neg (by omega), HFA.out]
              simp only [Int.toNat_natCast]
              rw [q1]
            rw [HFA.out] at q2
            have HK := Lib.hid q2
            have HXE := Lib.hid hXe
            clear q1 q2 hXe
            go_wp2_with fail
            go_ret
            rw [HXE.out]
            exact ⟨o2, v2, rfl, HT2.out, HTB2.out, HK.out⟩
end Go.Proofs.Ytaholpfikcdhbaa

/- Rig.Ready. -/
namespace Go.Proofs.Ytaholpfikcdhbaa
open Go.RowKit

def DInts (w : World) (l : List Int) (e : Ending) (w' : World) : Prop := ∃ v, e = .returned v ∧ w'.ownsRow w.heap.size 3 1 v l.length (ivs l) ∧ Below w.heap.size w w'
theorem news_at {w : World} {n : Nat} (hn : n = w.heap.size) (l : List Value) (t : TypeId) : ∀ ad, some (⟨n, 0, none⟩ : Addr) = some ad → ∀ j u, l[j]? = some u → (w.alloc (.cells l.toArray t)).cell? (ad.add j) = some u := by
  subst hn
  exact news_alloc w l t
/-- the first j tasks that are ready -/
def rdyL (p : Nat → Bool) (j : Nat) : List Int := ((List.range j).filter p).map fun k : Nat => (k : Int)
theorem rdyL_yes {p : Nat → Bool} {j : Nat} (h : p j = true) : rdyL p (j + 1) = rdyL p j ++ [(j : Int)] := by
  unfold rdyL
  rw [List.range_succ, List.filter_append, List.map_append]
  simp [h]
theorem rdyL_no {p : Nat → Bool} {j : Nat} (h : p j = false) : rdyL p (j + 1) = rdyL p j := by
  unfold rdyL
  rw [List.range_succ, List.filter_append, List.map_append]
  simp [h]
theorem rdyL_len (p : Nat → Bool) (j : Nat) : (rdyL p j).length ≤ j := by
  unfold rdyL
  rw [List.length_map]
  exact Nat.le_trans (List.length_filter_le _ _) (by simp)
def rdyI (g : GGraph) (caps : List Int) (r : RunP) : List Int := (readyL g caps r).map fun k : Nat => (k : Int)
set_option maxRecDepth 100000 in
set_option maxHeartbeats 2000000 in
theorem dReady_any {w : World} {o : Col} {R b : Nat} {g : GGraph} {caps : List Int} {N s : Nat} {qs : Ptrs} {r : RunP} {v : RVals} (h : RigAt w o R b g caps N qs r v) (hL : Linked g) (hcl : caps.length = g.edges.length) (hK : ROk g s r.rig) (hN : N ≤ 27000000000000) :
    Calls Try.prog 5 #[.pointer (some ⟨b, 0, none⟩)] w (DInts w (rdyI g caps r)) := by
  have hb := h.blk
  unfold rigV at hb
  have c0 := hb.cell 0 _ rfl
  have c4 := hb.cell 4 _ rfl
  change w.cell? _ = some v.tasks at c0
  obtain ⟨ta, tc, e1⟩ := h.tasks.slice
  rw [List.length_map, List.length_range] at e1
  rw [e1] at c0
  obtain ⟨n, hn⟩ : ∃ n, g.actors.length = n := ⟨_, rfl⟩
  rw [hn] at c0
  cases hf : r.failed with
  | some t =>
    rw [hf] at c4
    change w.cell? _ = some (.int .i64 (t : Int)) at c4
    have ht0 : (0 : Int) ≤ (t : Int) := by omega
    have hXe : rdyI g caps r = [] := by unfold rdyI readyL; rw [hf]; rfl
    rw [hXe]
    clear h hXe e1 hn hL hcl hK hN hf hb
    go_enter Try.func5, Try.ntmps5
    go_wp2_with fail
    go_ret
    exact ⟨_, rfl, World.ownsRow_nil w w.heap.size 3 1, Below.refl _ _⟩
  | none =>
    rw [hf] at c4
    change w.cell? _ = some (.int .i64 (-1)) at c4
    have hm1 : ¬ (0 : Int) ≤ (-1 : Int) := by omega
    have hn32 : n ≤ 32 := by rw [← hn]; exact h.few.1
    obtain ⟨i0, hi, hz0, hz1, hz2⟩ := info_parts info_int
    have HI := Lib.hid hi
    have hXe : rdyI g caps r = rdyL (isReady g caps r.rig) n := by unfold rdyI readyL rdyL; rw [hf, hn]
    have HXE := Lib.hid hXe
    have HN := Lib.hid hn
    have H := Lib.hid h
    have HE := Lib.hid e1
    have hrd : ∀ t, t < n → ∀ w1, Below w.heap.size w w1 → Calls Try.prog 16 #[ptrV (v.tb t)] w1 (Tells (.bool (isReady g caps r.rig t)) w1) := fun t ht w1 hb1 => tready_any (h.below hb1) hL hcl hK hN (by omega)
    have HRD := Lib.hid hrd
    obtain ⟨p, hp⟩ : ∃ p, isReady g caps r.rig = p := ⟨_, rfl⟩
    have HP := Lib.hid hp
    clear h hXe e1 hn hL hcl hK hN hf hb hi hrd hp
    go_enter Try.func5, Try.ntmps5
    go_wp2_with fail
    go_loopw [3, 20] (fun v i wl => ∃ (j : Nat), j ≤ n ∧ i = .int .i64 j ∧ Below w.heap.size w wl ∧ wl.ownsRow w.heap.size 3 1 v (rdyL p j).length (ivs (rdyL p j))) (fun _ i _ => n - (intOf i).toNat)
    case atStart => exact ⟨0, Nat.zero_le _, rfl, Below.refl _ _, World.ownsRow_nil w w.heap.size 3 1⟩
    case round =>
      obtain ⟨j, hj, rfl, hbl, hO⟩ := hrel
      obtain ⟨sa, sc, rfl⟩ := owns_slice hO
      have hlen := rdyL_len p j
      obtain ⟨L, hLe⟩ : ∃ L, (rdyL p j).length = L := ⟨_, rfl⟩
      rw [hLe] at hO hlen ⊢
      have HLE := Lib.hid hLe
      clear hLe
      by_cases hlt : j < n
      · have hlti : (j : Int) < n := by omega
        have hjg : j < g.actors.length := by have := HN.out; omega
        obtain ⟨gt, ft, ct, u1, u2, u3, ucol⟩ := vals_at2 H.out.tasks (k := j) (by simpa using hjg)
        simp only [List.length_map, List.length_range, List.getElem_map, List.getElem_range] at u1 u2 u3
        rw [HE.out, HN.out] at u1
        simp only [Value.slice.injEq] at u1
        obtain ⟨rfl, -, rfl⟩ := u1
        rw [HN.out] at u2
        have hcti : (n : Int) ≤ tc := by omega
        have d3 := cell_later hbl u3
        have hrd := HRD.out j hlt _ hbl
        rw [HP.out] at hrd
        obtain ⟨z, hz⟩ : ∃ z, p j = z := ⟨_, rfl⟩
        rw [hz] at hrd
        have HZ := Lib.hid hz
        have HR1 := Lib.hid hrd
        have HB := Lib.hid hbl
        have HO := Lib.hid hO
        clear hrd hz hbl hO u3 ucol u2
        unfold ptrV at d3
        go_wp2_with fail
        refine HR1.out.mono ?_
        rintro e w5 ⟨rfl, hb5⟩
        have HB5 := Lib.hid (HB.out.trans (hb5.mono HB.out.size))
        have hO5 := owns_kept HO.out (Mods.of_below hb5 (fun _ => False)) (fun _ _ h => h)
        have HO := Lib.hid hO5
        clear hb5 hO5 d3
        cases z with
        | true =>
          have hgs : rdyL p (j + 1) = rdyL p j ++ [(j : Int)] := rdyL_yes HZ.out
          have HGS := Lib.hid hgs
          clear hgs
          go_wp2_with (at_builtin; refine stop_here ?_)
          refine go_on ?_
          refine wpList_app rfl _ _ 22 rfl w.heap.size 3 i0 _ 1 8 Try.underlying22 HI.out hz0 hz1 hz2 rfl (.slice sa L sc) L _ rfl (HO.out.alloc _) (some ⟨w5.heap.size, 0, none⟩) 1 1 [.int .i64 (j : Int)] rfl rfl (fun h => by cases h) (news_at (w := w5) (n := w5.heap.size) rfl [.int .i64 (j : Int)] 3) (by simp [Value.oneCell']) (by unfold maxLen; omega) (grow_ok (by omega)) (by have := HB5.out.size; simp; omega) ?_
          intro v7 w7 k1 k20 _ _
          have hb7 := HB5.out.trans (below_app HO.out k20 HB5.out.size)
          have K1 := Lib.hid k1
          clear k1 k20
          go_wp2
          go_roundw
          case rel => exact ⟨j + 1, hlt, by go_num, hb7, by rw [HGS.out, List.length_append, HLE.out, show ivs (rdyL p j ++ [(j : Int)]) = ivs (rdyL p j) ++ [.int .i64 (j : Int)] by simp [ivs]]; exact K1.out⟩
          case measure => simp [intOf]; omega
        | false =>
          have hgs : rdyL p (j + 1) = rdyL p j := rdyL_no HZ.out
          have HGS := Lib.hid hgs
          clear hgs
          go_wp2
          go_roundw
          case rel => exact ⟨j + 1, hlt, by go_num, HB5.out, by rw [HGS.out, HLE.out]; exact HO.out⟩
          case measure => simp [intOf]; omega
      · obtain rfl : j = n := by omega
        have HO := Lib.hid hO
        have HB := Lib.hid hbl
        clear hO hbl
        go_wp2
        go_ret
        refine ⟨_, rfl, ?_, HB.out⟩
        rw [HXE.out, HP.out, HLE.out]
        exact HO.out
end Go.Proofs.Ytaholpfikcdhbaa

/- Rig.Halt, Rig.Failed. -/
namespace Go.Proofs.Ytaholpfikcdhbaa
open Go.RowKit

def failI (r : RunP) : Int := match r.failed with | some t => (t : Int) | none => -1
def haltI (g : GGraph) (caps : List Int) (r : RunP) : Int := if r.failed ≠ none then 3 else if readyL g caps r = [] then 5 else 0
theorem dFailed_any {w : World} {o : Col} {R b : Nat} {g : GGraph} {caps : List Int} {N : Nat} {qs : Ptrs} {r : RunP} {v : RVals} (h : RigAt w o R b g caps N qs r v) : Calls Try.prog 10 #[.pointer (some ⟨b, 0, none⟩)] w (SameW (.int .i64 (failI r)) w) := by
  have hb := h.blk
  unfold rigV at hb
  have c4 := hb.cell 4 _ rfl
  change w.cell? _ = some (.int .i64 (failI r)) at c4
  generalize failI r = x at c4 ⊢
  clear h hb
  go_enter Try.func10, Try.ntmps10
  go_wp2_with fail
  go_ret
  exact ⟨rfl, rfl⟩
set_option maxRecDepth 100000 in
set_option maxHeartbeats 1000000 in
theorem dHalt_any {w : World} {o : Col} {R b : Nat} {g : GGraph} {caps : List Int} {N s : Nat} {qs : Ptrs} {r : RunP} {v : RVals} (h : RigAt w o R b g caps N qs r v) (hL : Linked g) (hcl : caps.length = g.edges.length) (hK : ROk g s r.rig) (hN : N ≤ 27000000000000) :
    Calls Try.prog 9 #[.pointer (some ⟨b, 0, none⟩)] w (Tells (.int .u8 (haltI g caps r)) w) := by
  have hb := h.blk
  unfold rigV at hb
  have c4 := hb.cell 4 _ rfl
  have hR := dReady_any h hL hcl hK hN
  unfold haltI
  cases hf : r.failed with
  | some t =>
    rw [hf] at c4
    change w.cell? _ = some (.int .i64 (t : Int)) at c4
    have ht0 : (0 : Int) ≤ (t : Int) := by omega
    rw [if_pos (by simp)]
    clear h hb hR hL hcl hK hN hf
    go_enter Try.func9, Try.ntmps9
    go_wp2_with fail
    go_ret
    exact ⟨rfl, Below.refl _ _⟩
  | none =>
    rw [hf] at c4
    change w.cell? _ = some (.int .i64 (-1)) at c4
    have hm1 : ¬ (0 : Int) ≤ (-1 : Int) := by omega
    rw [if_neg (by simp)]
    have hz : (((rdyI g caps r).length : Int) == 0) = decide (readyL g caps r = []) := by
      unfold rdyI
      cases hl : readyL g caps r with
      | nil => simp
      | cons a l => rw [decide_eq_false (by simp), beq_eq_false_iff_ne]; simp; omega
    obtain ⟨L, hL2⟩ : ∃ L, (rdyI g caps r).length = L := ⟨_, rfl⟩
    unfold DInts at hR
    rw [hL2] at hz hR
    have HR := Lib.hid hR
    clear h hb hR hL hcl hK hN hf hL2
    by_cases he : readyL g caps r = []
    · rw [if_pos he]
      rw [decide_eq_true he] at hz
      clear he
      go_enter Try.func9, Try.ntmps9
      go_wp2_with fail
      refine HR.out.mono ?_
      rintro e w1 ⟨x, rfl, hO, hB⟩
      obtain ⟨sa, sc, rfl⟩ := owns_slice hO
      have HB := Lib.hid hB
      clear hO hB
      go_wp2_with fail
      go_ret
      exact ⟨rfl, HB.out⟩
    · rw [if_neg he]
      rw [decide_eq_false he] at hz
      clear he
      go_enter Try.func9, Try.ntmps9
      go_wp2_with fail
      refine HR.out.mono ?_
      rintro e w1 ⟨x, rfl, hO, hB⟩
      obtain ⟨sa, sc, rfl⟩ := owns_slice hO
      have HB := Lib.hid hB
      clear hO hB
      go_wp2_with fail
      go_ret
      exact ⟨rfl, HB.out⟩
end Go.Proofs.Ytaholpfikcdhbaa

/- A rig in memory whose tasks and tokens are as they must be: Step keeps that. -/
namespace Go.Proofs.Ytaholpfikcdhbaa
open Go.RowKit

/-- what a graph and its capacities must be -/
structure GOk (g : GGraph) (caps : List Int) : Prop where
  linked : Linked g
  acts : ActsOk g
  caps : caps.length = g.edges.length
structure RigOk (w : World) (o : Col) (R b : Nat) (g : GGraph) (caps : List Int) (M : Nat) (qs : Ptrs) (tb : Nat → Nat) (r : RunP) (v : RVals) : Prop where
  mem : RigAt w o R b g caps M qs r v
  ok : ROk g M r.rig
  len : ∀ d, (r.rig.strs d).length ≤ M
  tbs : v.tb = tb
theorem ROk.mono {g : GGraph} {s s' : Nat} {r : RigP} (h : ROk g s r) (hs : s ≤ s') : ROk g s' r := ⟨fun t ht => (h.task t ht).later hs, h.fits⟩
theorem RigOk.mono {w : World} {o : Col} {R b : Nat} {g : GGraph} {caps : List Int} {M M' : Nat} {qs : Ptrs} {tb : Nat → Nat} {r : RunP} {v : RVals} (h : RigOk w o R b g caps M qs tb r v) (hM : M ≤ M') : RigOk w o R b g caps M' qs tb r v := ⟨h.mem.mono hM, h.ok.mono hM, fun d => Nat.le_trans (h.len d) hM, h.tbs⟩
theorem RigOk.turn {w w' : World} {o o' : Col} {C : Nat → Prop} {R b : Nat} {g : GGraph} {caps : List Int} {M : Nat} {qs : Ptrs} {tb : Nat → Nat} {r : RunP} {v : RVals} (h : RigOk w o R b g caps M qs tb r v) (T : Turn o o' C w w') (hC : ∀ k, C k → ¬ MineR R k) : RigOk w' o' R b g caps M qs tb r v := ⟨h.mem.turn T hC, h.ok, h.len, h.tbs⟩
theorem str_len {g : GGraph} {caps : List Int} {s s1 : RigP} {t M : Nat} (h : stepP g caps s t = .goes s1) (hl : ∀ d, (s.strs d).length ≤ M) : ∀ d, (s1.strs d).length ≤ M + 1 := by
  obtain ⟨_, k⟩ := step_kind.1 h
  intro d
  have hd := hl d
  cases k with
  | give x hg hf hx =>
    show (upd s.strs (toP g t (s.tasks t).port) (s.strs (toP g t (s.tasks t).port) ++ [nextP (s.tasks t)]) d).length ≤ M + 1
    by_cases e : d = toP g t (s.tasks t).port
    · rw [e, upd_same, List.length_append]
      have := hl (toP g t (s.tasks t).port)
      simp
      omega
    · rw [upd_other e]; omega
  | take x v l hg hp hv hx =>
    show (upd s.strs (fromP g t (s.tasks t).port) l d).length ≤ M + 1
    by_cases e : d = fromP g t (s.tasks t).port
    · rw [e, upd_same]
      have := hl (fromP g t (s.tasks t).port)
      rw [hv] at this
      simp at this
      omega
    · rw [upd_other e]; omega
  | fire x hg hp he hx => show (s.strs d).length ≤ M + 1; omega
theorem stepR_ok {g : GGraph} {caps : List Int} {r : RunP} {t M : Nat} (hga : ActsOk g) (h1 : ROk g M r.rig) (h2 : ∀ d, (r.rig.strs d).length ≤ M) : ROk g (M + 1) (stepR g caps r t).1.rig ∧ ∀ d, ((stepR g caps r t).1.rig.strs d).length ≤ M + 1 := by
  have same : ROk g (M + 1) r.rig ∧ ∀ d, (r.rig.strs d).length ≤ M + 1 := ⟨h1.mono (by omega), fun d => by have := h2 d; omega⟩
  unfold stepR
  cases r.failed with
  | some t => exact same
  | none =>
    simp only
    cases hs : stepP g caps r.rig t with
    | waits => exact same
    | fails => exact same
    | goes s' => exact ⟨h1.step hga hs, str_len hs h2⟩
/-- what a step leaves -/
def OkRet (w : World) (o : Col) (R b : Nat) (g : GGraph) (caps : List Int) (M : Nat) (qs : Ptrs) (tb : Nat → Nat) (x : RunP) (y : Value) (e : Ending) (w' : World) : Prop :=
  ∃ o' v', e = .returned y ∧ Turn o o' (MineR R) w w' ∧ RigOk w' o' R b g caps M qs tb x v'
theorem dStep_ok {w : World} {o : Col} {R b : Nat} {g : GGraph} {caps : List Int} {M : Nat} {qs : Ptrs} {tb : Nat → Nat} {r : RunP} {v : RVals} (k : Int) (h : RigOk w o R b g caps M qs tb r v) (hG : GOk g caps) (hM : M < 27000000000000) :
    Calls Try.prog 6 #[.pointer (some ⟨b, 0, none⟩), .int .i64 k] w (OkRet w o R b g caps (M + 1) qs tb (stepI g caps r k).1 (.bool (stepI g caps r k).2)) := by
  refine (dStep_any k h.mem hG.linked hG.acts hG.caps h.ok (by omega) hM h.len).mono ?_
  rintro e w' ⟨o', v', he, T, ht, K⟩
  have hh : ROk g (M + 1) (stepI g caps r k).1.rig ∧ ∀ d, ((stepI g caps r k).1.rig.strs d).length ≤ M + 1 := by
    unfold stepI
    split
    · exact ⟨h.ok.mono (by omega), fun d => by have := h.len d; show (r.rig.strs d).length ≤ _; omega⟩
    · exact stepR_ok hG.acts h.ok h.len
  exact ⟨o', v', he, T, K, hh.1, hh.2, ht.trans h.tbs⟩
end Go.Proofs.Ytaholpfikcdhbaa

/- A new rig, plainly; the chapter's small graph. No function in sight. -/
namespace Go.Proofs.Ytaholpfikcdhbaa

/-- a rig at its start -/
def keepT (g : GGraph) (t : Nat) : List Int := match g.actors[t]? with | some a => keep0 a.tag a.params | none => []
def newTask (g : GGraph) (t : Nat) : TaskP := ⟨keepT g t, 0, List.replicate (ratesI g t).length [], [], 0, false, 0⟩
def newRig (g : GGraph) : RigP := ⟨newTask g, fun d => if d < g.edges.length then (edgeAt g d).start else []⟩
/-- what is wrong with a graph and capacities -/
def newE (g : GGraph) (caps : List Int) : Int := if checkE g ≠ 0 then checkE g else if caps.length ≠ g.edges.length then 240 else if caps.any (fun c => decide (c < 0)) then 240 else 0
def lineG : GGraph := ⟨{ data := #[103] }, [⟨{ data := #[97] }, 10, [1, 1]⟩, ⟨{ data := #[98] }, 6, [1]⟩, ⟨{ data := #[99] }, 8, []⟩], [⟨0, 0, 1, 0, []⟩, ⟨1, 0, 2, 0, []⟩], [], [⟨{ data := #[121] }, 2, 0⟩]⟩
set_option maxRecDepth 100000 in
theorem line_run : decide (10 < (roundsP lineG [1, 1] 10 ⟨newRig lineG, none⟩).2) = true ∧ outS lineG (roundsP lineG [1, 1] 10 ⟨newRig lineG, none⟩).1.rig 0 = [1, 3] := by constructor <;> kernel_rfl
theorem line_fail : (roundsP lineG [1, 1] 10 ⟨newRig lineG, none⟩).1.failed = none := by kernel_rfl
theorem line_ready : (readyL lineG [1, 1] (roundsP lineG [1, 1] 10 ⟨newRig lineG, none⟩).1).length = 2 := by kernel_rfl
theorem line_check : newE lineG [1, 1] = 0 := by kernel_rfl
end Go.Proofs.Ytaholpfikcdhbaa

/- A rig that is being built, in memory. No function in sight. -/
namespace Go.Proofs.Ytaholpfikcdhbaa
open Go.RowKit

/-- where ports lead so far: to the streams below B -/
def fromS (qs : Ptrs) (g : GGraph) (t B : Nat) : List Value := (List.range (ratesI g t).length).map fun q => if fromP g t q < B then srcV qs g t q else .nilIface
def toS (qs : Ptrs) (g : GGraph) (t B : Nat) : List Value := (List.range (ratesO g t).length).map fun p => if toP g t p < B then dstV qs g t p else .nilIface
theorem fromS_len (qs : Ptrs) (g : GGraph) (t B : Nat) : (fromS qs g t B).length = (ratesI g t).length := by simp [fromS]
theorem toS_len (qs : Ptrs) (g : GGraph) (t B : Nat) : (toS qs g t B).length = (ratesO g t).length := by simp [toS]
theorem fromS_zero (qs : Ptrs) (g : GGraph) (t : Nat) : fromS qs g t 0 = List.replicate (ratesI g t).length .nilIface := by
  refine List.ext_getElem (by simp [fromS]) fun i h1 h2 => ?_
  simp [fromS]
theorem toS_zero (qs : Ptrs) (g : GGraph) (t : Nat) : toS qs g t 0 = List.replicate (ratesO g t).length .nilIface := by
  refine List.ext_getElem (by simp [toS]) fun i h1 h2 => ?_
  simp [toS]
theorem fromS_upd {qs : Ptrs} {g : GGraph} {t B d : Nat} (b : Nat) (h : B ≤ d) : fromS (upd qs d b) g t B = fromS qs g t B := by
  refine List.ext_getElem (by simp [fromS]) fun i h1 h2 => ?_
  simp only [fromS, List.getElem_map, List.getElem_range]
  split
  · unfold srcV; rw [upd_other (by omega)]
  · rfl
theorem toS_upd {qs : Ptrs} {g : GGraph} {t B d : Nat} (b : Nat) (h : B ≤ d) : toS (upd qs d b) g t B = toS qs g t B := by
  refine List.ext_getElem (by simp [toS]) fun i h1 h2 => ?_
  simp only [toS, List.getElem_map, List.getElem_range]
  split
  · unfold dstV; rw [upd_other (by omega)]
  · rfl
theorem from_port {g : GGraph} {t p q : Nat} (h : fromP g t p = fromP g t q) (hl : fromP g t p < g.edges.length + g.ins.length) : p = q := by
  have key : ∀ (p : Nat), fromP g t p < g.edges.length + g.ins.length → (∃ i e, fromP g t p = i ∧ i < g.edges.length ∧ g.edges[i]? = some e ∧ e.dport = (p : Int)) ∨ (∃ i e, fromP g t p = g.edges.length + i ∧ i < g.ins.length ∧ g.ins[i]? = some e ∧ e.port = (p : Int)) := by
    intro p hp
    unfold fromP at hp ⊢
    cases h1 : g.edges.findIdx? (fun e => decide (e.dst = (t : Int)) && decide (e.dport = (p : Int))) with
    | some i =>
      obtain ⟨hi, hp, _⟩ := List.findIdx?_eq_some_iff_getElem.1 h1
      simp at hp
      exact .inl ⟨i, g.edges[i], rfl, hi, List.getElem?_eq_getElem hi, hp.2⟩
    | none =>
      rw [h1] at hp
      cases h2 : g.ins.findIdx? (fun e => decide (e.actor = (t : Int)) && decide (e.port = (p : Int))) with
      | some i =>
        obtain ⟨hi, hp, _⟩ := List.findIdx?_eq_some_iff_getElem.1 h2
        simp at hp
        exact .inr ⟨i, g.ins[i], rfl, hi, List.getElem?_eq_getElem hi, hp.2⟩
      | none =>
        rw [h2] at hp
        simp only at hp
        omega
  rcases key p hl with ⟨i, e, h1, h2, h3, h4⟩ | ⟨i, e, h1, h2, h3, h4⟩ <;> rcases key q (by omega) with ⟨j, f, k1, k2, k3, k4⟩ | ⟨j, f, k1, k2, k3, k4⟩
  · obtain rfl : i = j := by omega
    rw [h3] at k3
    cases k3
    omega
  · omega
  · omega
  · obtain rfl : i = j := by omega
    rw [h3] at k3
    cases k3
    omega
theorem to_port {g : GGraph} {t p q : Nat} (h : toP g t p = toP g t q) (hl : toP g t p < g.edges.length + g.ins.length + g.outs.length) : p = q := by
  have key : ∀ (p : Nat), toP g t p < g.edges.length + g.ins.length + g.outs.length → (∃ i e, toP g t p = i ∧ i < g.edges.length ∧ g.edges[i]? = some e ∧ e.sport = (p : Int)) ∨ (∃ i e, toP g t p = g.edges.length + g.ins.length + i ∧ i < g.outs.length ∧ g.outs[i]? = some e ∧ e.port = (p : Int)) := by
    intro p hp
    unfold toP at hp ⊢
    cases h1 : g.edges.findIdx? (fun e => decide (e.src = (t : Int)) && decide (e.sport = (p : Int))) with
    | some i =>
      obtain ⟨hi, hp, _⟩ := List.findIdx?_eq_some_iff_getElem.1 h1
      simp at hp
      exact .inl ⟨i, g.edges[i], rfl, hi, List.getElem?_eq_getElem hi, hp.2⟩
    | none =>
      rw [h1] at hp
      cases h2 : g.outs.findIdx? (fun e => decide (e.actor = (t : Int)) && decide (e.port = (p : Int))) with
      | some i =>
        obtain ⟨hi, hp, _⟩ := List.findIdx?_eq_some_iff_getElem.1 h2
        simp at hp
        exact .inr ⟨i, g.outs[i], rfl, hi, List.getElem?_eq_getElem hi, hp.2⟩
      | none =>
        rw [h2] at hp
        simp only at hp
        omega
  rcases key p hl with ⟨i, e, h1, h2, h3, h4⟩ | ⟨i, e, h1, h2, h3, h4⟩ <;> rcases key q (by omega) with ⟨j, f, k1, k2, k3, k4⟩ | ⟨j, f, k1, k2, k3, k4⟩
  · obtain rfl : i = j := by omega
    rw [h3] at k3
    cases k3
    omega
  · omega
  · omega
  · obtain rfl : i = j := by omega
    rw [h3] at k3
    cases k3
    omega
/-- one more stream is linked -/
theorem fromS_set {qs : Ptrs} {g : GGraph} {t q B : Nat} (he : fromP g t q = B) (hB : B < g.edges.length + g.ins.length) : (fromS qs g t B).set q (srcV qs g t q) = fromS qs g t (B + 1) := by
  refine List.ext_getElem (by simp [fromS]) fun i h1 h2 => ?_
  rw [List.getElem_set]
  simp only [fromS, List.getElem_map, List.getElem_range]
  by_cases e : q = i
  · subst e
    rw [if_pos rfl, if_pos (by omega)]
  · rw [if_neg e]
    have : fromP g t i ≠ B := fun h => e (from_port (g := g) (t := t) (p := q) (q := i) (by omega) (by omega))
    by_cases h : fromP g t i < B
    · rw [if_pos h, if_pos (by omega)]
    · rw [if_neg h, if_neg (by omega)]
theorem fromS_else {qs : Ptrs} {g : GGraph} {t u q B : Nat} (he : fromP g t q = B) (hu : u ≠ t) : fromS qs g u B = fromS qs g u (B + 1) := by
  refine List.ext_getElem (by simp [fromS]) fun i h1 h2 => ?_
  simp only [fromS, List.getElem_map, List.getElem_range]
  have : fromP g u i ≠ B := fun h => hu (from_task (h.trans he.symm))
  by_cases h : fromP g u i < B
  · rw [if_pos h, if_pos (by omega)]
  · rw [if_neg h, if_neg (by omega)]
theorem toS_set {qs : Ptrs} {g : GGraph} {t p B : Nat} (he : toP g t p = B) (hB : B < g.edges.length + g.ins.length + g.outs.length) : (toS qs g t B).set p (dstV qs g t p) = toS qs g t (B + 1) := by
  refine List.ext_getElem (by simp [toS]) fun i h1 h2 => ?_
  rw [List.getElem_set]
  simp only [toS, List.getElem_map, List.getElem_range]
  by_cases e : p = i
  · subst e
    rw [if_pos rfl, if_pos (by omega)]
  · rw [if_neg e]
    have : toP g t i ≠ B := fun h => e (to_port (g := g) (t := t) (p := p) (q := i) (by omega) (by omega))
    by_cases h : toP g t i < B
    · rw [if_pos h, if_pos (by omega)]
    · rw [if_neg h, if_neg (by omega)]
theorem toS_else {qs : Ptrs} {g : GGraph} {t u p B : Nat} (he : toP g t p = B) (hu : u ≠ t) : toS qs g u B = toS qs g u (B + 1) := by
  refine List.ext_getElem (by simp [toS]) fun i h1 h2 => ?_
  simp only [toS, List.getElem_map, List.getElem_range]
  have : toP g u i ≠ B := fun h => hu (to_task (h.trans he.symm))
  by_cases h : toP g u i < B
  · rw [if_pos h, if_pos (by omega)]
  · rw [if_neg h, if_neg (by omega)]
theorem fromS_all {qs : Ptrs} {g : GGraph} {t B : Nat} (h : ∀ q, q < (ratesI g t).length → fromP g t q < B) : fromS qs g t B = (List.range (ratesI g t).length).map (srcV qs g t) := by
  refine List.ext_getElem (by simp [fromS]) fun i h1 h2 => ?_
  simp only [fromS, List.getElem_map, List.getElem_range]
  rw [if_pos (h i (by simpa [fromS] using h1))]
theorem toS_all {qs : Ptrs} {g : GGraph} {t B : Nat} (h : ∀ q, q < (ratesO g t).length → toP g t q < B) : toS qs g t B = (List.range (ratesO g t).length).map (dstV qs g t) := by
  refine List.ext_getElem (by simp [toS]) fun i h1 h2 => ?_
  simp only [toS, List.getElem_map, List.getElem_range]
  rw [if_pos (h i (by simpa [toS] using h1))]
/-- no out-port leads to an input -/
theorem toS_ins {qs : Ptrs} {g : GGraph} {t n : Nat} (h : ∀ p, p < (ratesO g t).length → toP g t p < g.edges.length ∨ g.edges.length + g.ins.length ≤ toP g t p) (hn : n ≤ g.ins.length) : toS qs g t g.edges.length = toS qs g t (g.edges.length + n) := by
  refine List.ext_getElem (by simp [toS]) fun i h1 h2 => ?_
  simp only [toS, List.getElem_map, List.getElem_range]
  have := h i (by simpa [toS] using h1)
  by_cases h : toP g t i < g.edges.length
  · rw [if_pos h, if_pos (by omega)]
  · rw [if_neg h, if_neg (by omega)]

theorem Blk.vals {w : World} {o : Col} {c b : Nat} {ty : TypeId} {vs : List Value} (h : Blk w o c b ty vs.toArray) {n cap : Nat} (hn : n = vs.length) (hc : n ≤ cap) : Vals w o c (.slice (some ⟨b, 0, none⟩) n cap) vs := by
  subst hn
  by_cases hp : 0 < vs.length
  · refine .inr ⟨hp, b, 0, cap, rfl, hc, h.lt, h.2, fun k hk => h.cell (0 + k) _ ?_⟩
    rw [Nat.zero_add]
    simp [hk]
  · obtain rfl : vs = [] := List.eq_nil_of_length_eq_zero (by omega)
    exact .inl ⟨rfl, _, _, rfl⟩

/-- a task whose ports lead to S and D -/
structure HalfT (w : World) (o : Col) (M b : Nat) (g : GGraph) (t : Nat) (x : TaskP) (v : TVals) (S D : List Value) : Prop where
  blk : Blk w o M b 54 (taskV x v (ratesI g t).length).toArray
  act : ∀ a, g.actors[t]? = some a → Act w o (M + 1) (M + 2) v.body a.tag a.params x.keep x.n
  ins : Ints w o (M + 3) v.ins (ratesI g t)
  outs : Ints w o (M + 4) v.outs (ratesO g t)
  src : ∃ gs, v.src = .slice (some ⟨gs, 0, none⟩) (ratesI g t).length (ratesI g t).length ∧ Blk w o (M + 5) gs 67 S.toArray
  dst : ∃ gd, v.dst = .slice (some ⟨gd, 0, none⟩) (ratesO g t).length (ratesO g t).length ∧ Blk w o (M + 6) gd 65 D.toArray
  slen : S.length = (ratesI g t).length
  dlen : D.length = (ratesO g t).length
  hand : RowsAt w o (M + 7) (M + 16) v.hand x.hand v.hvs
  gift : GiftAt w o (M + 8) (M + 32) x v
  few : (ratesI g t).length ≤ 16 ∧ (ratesO g t).length ≤ 16 ∧ x.hand.length ≤ 16 ∧ x.gift.length ≤ 16
theorem HalfT.turn {w w' : World} {o o' : Col} {C : Nat → Prop} {M b : Nat} {g : GGraph} {t : Nat} {x : TaskP} {v : TVals} {S D : List Value} (h : HalfT w o M b g t x v S D) (T : Turn o o' C w w') (hC : ∀ k, C k → ¬ MineT M k) : HalfT w' o' M b g t x v S D := by
  have hc : ∀ j, j < 48 → ¬ C (M + j) := fun j hj hcc => hC _ hcc ⟨by omega, by omega⟩
  have h0 : ¬ C M := hc 0 (by omega)
  obtain ⟨_, _, f3, f4⟩ := h.few
  obtain ⟨gs, e1, b1⟩ := h.src
  obtain ⟨gd, e2, b2⟩ := h.dst
  exact ⟨h.blk.turn T h0, fun a ha => (h.act a ha).turn T (hc 1 (by omega)) (hc 2 (by omega)), h.ins.turn T (hc 3 (by omega)), h.outs.turn T (hc 4 (by omega)), ⟨gs, e1, b1.turn T (hc 5 (by omega))⟩, ⟨gd, e2, b2.turn T (hc 6 (by omega))⟩, h.slen, h.dlen, h.hand.turn T (hc 7 (by omega)) (fun k hk => by rw [Nat.add_assoc]; exact hc _ (by omega)), h.gift.turn T (hc 8 (by omega)) (fun k hk => by rw [Nat.add_assoc]; exact hc _ (by omega)), h.few⟩
theorem HalfT.whole {w : World} {o : Col} {M b : Nat} {g : GGraph} {qs : Ptrs} {t : Nat} {x : TaskP} {v : TVals} {S D : List Value} (h : HalfT w o M b g t x v S D) (hS : S = (List.range (ratesI g t).length).map (srcV qs g t)) (hD : D = (List.range (ratesO g t).length).map (dstV qs g t)) : TaskAt w o M b g qs t x v := by
  obtain ⟨gs, e1, b1⟩ := h.src
  obtain ⟨gd, e2, b2⟩ := h.dst
  subst hS hD
  exact ⟨h.blk, h.act, h.ins, h.outs, by rw [e1]; exact b1.vals (by simp) (Nat.le_refl _), by rw [e2]; exact b2.vals (by simp) (Nat.le_refl _), h.hand, h.gift, h.few⟩
theorem HalfT.setSrc {w : World} {o : Col} {M b : Nat} {g : GGraph} {t : Nat} {x : TaskP} {v : TVals} {S D : List Value} (h : HalfT w o M b g t x v S D) {gs : Nat} (he : v.src = .slice (some ⟨gs, 0, none⟩) (ratesI g t).length (ratesI g t).length) (q : Nat) (u : Value) :
    HalfT (w.setCell ⟨gs, q, none⟩ u) o M b g t x v (S.set q u) D ∧ Turn o o (fun c => c = M + 5) w (w.setCell ⟨gs, q, none⟩ u) := by
  obtain ⟨gs', e1, b1⟩ := h.src
  rw [he] at e1
  cases e1
  obtain ⟨B, T⟩ := b1.set q u
  obtain ⟨gd, e2, b2⟩ := h.dst
  have no : ∀ j, j ≠ 5 → ¬ (M + j = M + 5) := fun j hj => by omega
  refine ⟨⟨h.blk.turn T (no 0 (by omega)), fun a ha => (h.act a ha).turn T (no 1 (by omega)) (no 2 (by omega)), h.ins.turn T (no 3 (by omega)), h.outs.turn T (no 4 (by omega)), ⟨gs, he, by rw [List.setIfInBounds_toArray] at B; exact B⟩, ⟨gd, e2, b2.turn T (no 6 (by omega))⟩, by rw [List.length_set]; exact h.slen, h.dlen, h.hand.turn T (no 7 (by omega)) (fun k hk => by omega), h.gift.turn T (no 8 (by omega)) (fun k hk => by omega), h.few⟩, T⟩
theorem HalfT.setDst {w : World} {o : Col} {M b : Nat} {g : GGraph} {t : Nat} {x : TaskP} {v : TVals} {S D : List Value} (h : HalfT w o M b g t x v S D) {gd : Nat} (he : v.dst = .slice (some ⟨gd, 0, none⟩) (ratesO g t).length (ratesO g t).length) (p : Nat) (u : Value) :
    HalfT (w.setCell ⟨gd, p, none⟩ u) o M b g t x v S (D.set p u) ∧ Turn o o (fun c => c = M + 6) w (w.setCell ⟨gd, p, none⟩ u) := by
  obtain ⟨gd', e2, b2⟩ := h.dst
  rw [he] at e2
  cases e2
  obtain ⟨B, T⟩ := b2.set p u
  obtain ⟨gs, e1, b1⟩ := h.src
  have no : ∀ j, j ≠ 6 → ¬ (M + j = M + 6) := fun j hj => by omega
  refine ⟨⟨h.blk.turn T (no 0 (by omega)), fun a ha => (h.act a ha).turn T (no 1 (by omega)) (no 2 (by omega)), h.ins.turn T (no 3 (by omega)), h.outs.turn T (no 4 (by omega)), ⟨gs, e1, b1.turn T (no 5 (by omega))⟩, ⟨gd, he, by rw [List.setIfInBounds_toArray] at B; exact B⟩, h.slen, by rw [List.length_set]; exact h.dlen, h.hand.turn T (no 7 (by omega)) (fun k hk => by omega), h.gift.turn T (no 8 (by omega)) (fun k hk => by omega), h.few⟩, T⟩

/-- a rig with so many tasks, edges, inputs, tapes; its ports lead to the streams below F and below B -/
structure HalfR (w : World) (o : Col) (R b : Nat) (g : GGraph) (caps : List Int) (qs : Ptrs) (nT nE nI nO F B : Nat) (v : RVals) : Prop where
  blk : Blk w o R b 40 (rigV ⟨newRig g, none⟩ v).toArray
  tasks : Own w o (R + 1) 45 1 v.tasks nT ((List.range nT).map fun t => ptrV (v.tb t))
  edges : Own w o (R + 2) 43 1 v.edges nE ((List.range nE).map fun d => ptrV (qs d))
  inputs : Own w o (R + 3) 43 1 v.inputs nI ((List.range nI).map fun d => ptrV (qs (g.edges.length + d)))
  tapes : Own w o (R + 4) 48 1 v.tapes nO ((List.range nO).map fun d => ptrV (qs (g.edges.length + g.ins.length + d)))
  task : ∀ t, t < nT → HalfT w o (R + 100 + 64 * t) (v.tb t) g t (newTask g t) (v.tv t) (fromS qs g t F) (toS qs g t B)
  queue : ∀ d, d < nE ∨ (g.edges.length ≤ d ∧ d < g.edges.length + nI) → QAt w o (R + 4000 + d) (qs d) (capD caps d) ((newRig g).strs d) 256
  tape : ∀ d, g.edges.length + g.ins.length ≤ d → d < g.edges.length + g.ins.length + nO → Blk w o (R + 4000 + d) (qs d) 47 #[v.rows d] ∧ Own w o (R + 5000 + d) 3 1 (v.rows d) 0 []
  most : nT ≤ g.actors.length ∧ nE ≤ g.edges.length ∧ nI ≤ g.ins.length ∧ nO ≤ g.outs.length
  few : g.actors.length ≤ 32 ∧ g.edges.length ≤ 96 ∧ g.ins.length ≤ 16 ∧ g.outs.length ≤ 16
theorem HalfR.turn {w w' : World} {o o' : Col} {C : Nat → Prop} {R b : Nat} {g : GGraph} {caps : List Int} {qs : Ptrs} {nT nE nI nO F B : Nat} {v : RVals} (h : HalfR w o R b g caps qs nT nE nI nO F B v) (T : Turn o o' C w w') (hC : ∀ k, C k → MineR R k → R + 100 + 64 * nT ≤ k ∧ k < R + 4000) : HalfR w' o' R b g caps qs nT nE nI nO F B v := by
  have hc : ∀ j, j < 6000 → j < 100 + 64 * nT ∨ 4000 ≤ j → ¬ C (R + j) := fun j hj hn hcc => by
    have := hC _ hcc ⟨by omega, by omega⟩
    omega
  have h0 : ¬ C R := hc 0 (by omega) (by omega)
  obtain ⟨f1, f2, f3, f4⟩ := h.few
  obtain ⟨m1, m2, m3, m4⟩ := h.most
  refine ⟨h.blk.turn T h0, h.tasks.turn T (hc 1 (by omega) (by omega)), h.edges.turn T (hc 2 (by omega) (by omega)), h.inputs.turn T (hc 3 (by omega) (by omega)), h.tapes.turn T (hc 4 (by omega) (by omega)), fun t ht => (h.task t ht).turn T (fun k hk hm => ?_), fun d hd => (h.queue d hd).turn T (by rw [Nat.add_assoc]; exact hc _ (by omega) (by omega)), fun d hd hd2 => ⟨(h.tape d hd hd2).1.turn T (by rw [Nat.add_assoc]; exact hc _ (by omega) (by omega)), (h.tape d hd hd2).2.turn T (by rw [Nat.add_assoc]; exact hc _ (by omega) (by omega))⟩, h.most, h.few⟩
  unfold MineT at hm
  have := hC k hk ⟨by omega, by omega⟩
  omega
/-- all of it is there -/
theorem HalfR.whole {w : World} {o : Col} {R b : Nat} {g : GGraph} {caps : List Int} {qs : Ptrs} {v : RVals} (h : HalfR w o R b g caps qs g.actors.length g.edges.length g.ins.length g.outs.length (g.edges.length + g.ins.length) (g.edges.length + g.ins.length + g.outs.length) v) (hS : Sound g) : RigAt w o R b g caps 256 qs ⟨newRig g, none⟩ v := by
  refine ⟨h.blk, h.tasks.vals, h.edges.vals, h.inputs.vals, h.tapes.vals, fun t ht => (h.task t ht).whole (fromS_all fun q hq => hS.from_lt ht hq) (toS_all fun p hp => ?_), fun d hd => h.queue d (by omega), fun d hd hd2 => ?_, h.few⟩
  · rcases hS.to_lt ht hp with h | h <;> omega
  · have e : (newRig g).strs d = [] := by
      unfold newRig
      simp only
      rw [if_neg (by omega)]
    rw [e]
    exact h.tape d hd hd2
/-- a task more -/
theorem HalfR.addTask {w w' : World} {o o' : Col} {R b : Nat} {g : GGraph} {caps : List Int} {qs : Ptrs} {k : Nat} {v : RVals} {vt : Value} {tbk : Nat} {tvk : TVals} (h : HalfR w o R b g caps qs k 0 0 0 0 0 v) (hk : k < g.actors.length) (T : Turn o o' (fun c => c = R ∨ c = R + 1 ∨ MineT (R + 100 + 64 * k) c) w w')
    (hB : Blk w' o' R b 40 (rigV ⟨newRig g, none⟩ { v with tasks := vt }).toArray) (hO : Own w' o' (R + 1) 45 1 vt (k + 1) (((List.range k).map fun t => ptrV (v.tb t)) ++ [ptrV tbk])) (hT : HalfT w' o' (R + 100 + 64 * k) tbk g k (newTask g k) tvk (fromS qs g k 0) (toS qs g k 0)) :
    HalfR w' o' R b g caps qs (k + 1) 0 0 0 0 0 { v with tasks := vt, tb := upd v.tb k tbk, tv := upd v.tv k tvk } := by
  obtain ⟨f1, f2, f3, f4⟩ := h.few
  obtain ⟨m1, m2, m3, m4⟩ := h.most
  refine ⟨hB, ?_, h.edges.turn T (by unfold MineT; omega), h.inputs.turn T (by unfold MineT; omega), h.tapes.turn T (by unfold MineT; omega), fun t ht => ?_, fun d hd => by omega, fun d hd hd2 => by omega, ⟨hk, m2, m3, m4⟩, h.few⟩
  · have e : ((List.range (k + 1)).map fun t => ptrV (upd v.tb k tbk t)) = ((List.range k).map fun t => ptrV (v.tb t)) ++ [ptrV tbk] := by
      rw [List.range_succ, List.map_append]
      congr 1
      · refine List.map_congr_left fun t ht => ?_
        rw [upd_other (by have := List.mem_range.1 ht; omega)]
      · simp [upd_same]
    rw [e]
    exact hO
  · show HalfT w' o' (R + 100 + 64 * t) (upd v.tb k tbk t) g t (newTask g t) (upd v.tv k tvk t) _ _
    by_cases e : t = k
    · subst e
      rw [upd_same, upd_same]
      exact hT
    · rw [upd_other e, upd_other e]
      exact (h.task t (by omega)).turn T (fun c hc hm => by unfold MineT at hc hm; omega)
/-- an edge more -/
theorem HalfR.addEdge {w w' : World} {o o' : Col} {R b : Nat} {g : GGraph} {caps : List Int} {qs : Ptrs} {i q : Nat} {v : RVals} {ve : Value} (h : HalfR w o R b g caps qs g.actors.length i 0 0 i i v) (hi : i < g.edges.length) (T : Turn o o' (fun c => c = R ∨ c = R + 2) w w')
    (hB : Blk w' o' R b 40 (rigV ⟨newRig g, none⟩ { v with edges := ve }).toArray) (hO : Own w' o' (R + 2) 43 1 ve (i + 1) (((List.range i).map fun d => ptrV (qs d)) ++ [ptrV q])) (hQ : QAt w' o' (R + 4000 + i) q (capD caps i) (edgeAt g i).start 256) :
    HalfR w' o' R b g caps (upd qs i q) g.actors.length (i + 1) 0 0 i i { v with edges := ve } := by
  obtain ⟨f1, f2, f3, f4⟩ := h.few
  obtain ⟨m1, m2, m3, m4⟩ := h.most
  refine ⟨hB, h.tasks.turn T (by omega), ?_, ?_, ?_, fun t ht => ?_, fun d hd => ?_, fun d hd hd2 => by omega, ⟨m1, hi, m3, m4⟩, h.few⟩
  · have e : ((List.range (i + 1)).map fun d => ptrV (upd qs i q d)) = ((List.range i).map fun d => ptrV (qs d)) ++ [ptrV q] := by
      rw [List.range_succ, List.map_append]
      congr 1
      · refine List.map_congr_left fun t ht => ?_
        rw [upd_other (by have := List.mem_range.1 ht; omega)]
      · simp [upd_same]
    rw [e]
    exact hO
  · exact h.inputs.turn T (by omega)
  · exact h.tapes.turn T (by omega)
  · rw [fromS_upd q (Nat.le_refl _), toS_upd q (Nat.le_refl _)]
    exact (h.task t ht).turn T (fun c hc hm => by unfold MineT at hm; omega)
  · by_cases e : d = i
    · subst e
      have e2 : (newRig g).strs d = (edgeAt g d).start := by unfold newRig; simp only; rw [if_pos hi]
      rw [upd_same, e2]
      exact hQ
    · rw [upd_other e]
      exact (h.queue d (by omega)).turn T (by omega)
/-- an input more -/
theorem HalfR.addInput {w w' : World} {o o' : Col} {R b : Nat} {g : GGraph} {caps : List Int} {qs : Ptrs} {i q : Nat} {v : RVals} {ve : Value} (h : HalfR w o R b g caps qs g.actors.length g.edges.length i 0 (g.edges.length + i) (g.edges.length + i) v) (hi : i < g.ins.length) (T : Turn o o' (fun c => c = R ∨ c = R + 3) w w')
    (hB : Blk w' o' R b 40 (rigV ⟨newRig g, none⟩ { v with inputs := ve }).toArray) (hO : Own w' o' (R + 3) 43 1 ve (i + 1) (((List.range i).map fun d => ptrV (qs (g.edges.length + d))) ++ [ptrV q])) (hQ : QAt w' o' (R + 4000 + (g.edges.length + i)) q (capD caps (g.edges.length + i)) [] 256) :
    HalfR w' o' R b g caps (upd qs (g.edges.length + i) q) g.actors.length g.edges.length (i + 1) 0 (g.edges.length + i) (g.edges.length + i) { v with inputs := ve } := by
  obtain ⟨f1, f2, f3, f4⟩ := h.few
  obtain ⟨m1, m2, m3, m4⟩ := h.most
  refine ⟨hB, h.tasks.turn T (by omega), ?_, ?_, ?_, fun t ht => ?_, fun d hd => ?_, fun d hd hd2 => by omega, ⟨m1, m2, hi, m4⟩, h.few⟩
  · have e : ((List.range g.edges.length).map fun d => ptrV (upd qs (g.edges.length + i) q d)) = (List.range g.edges.length).map fun d => ptrV (qs d) := by
      refine List.map_congr_left fun t ht => ?_
      rw [upd_other (by have := List.mem_range.1 ht; omega)]
    rw [e]
    exact h.edges.turn T (by omega)
  · have e : ((List.range (i + 1)).map fun d => ptrV (upd qs (g.edges.length + i) q (g.edges.length + d))) = ((List.range i).map fun d => ptrV (qs (g.edges.length + d))) ++ [ptrV q] := by
      rw [List.range_succ, List.map_append]
      congr 1
      · refine List.map_congr_left fun t ht => ?_
        rw [upd_other (by have := List.mem_range.1 ht; omega)]
      · simp [upd_same]
    rw [e]
    exact hO
  · exact h.tapes.turn T (by omega)
  · rw [fromS_upd q (Nat.le_refl _), toS_upd q (Nat.le_refl _)]
    exact (h.task t ht).turn T (fun c hc hm => by unfold MineT at hm; omega)
  · by_cases e : d = g.edges.length + i
    · subst e
      have e2 : (newRig g).strs (g.edges.length + i) = [] := by unfold newRig; simp only; rw [if_neg (by omega)]
      rw [upd_same, e2]
      exact hQ
    · rw [upd_other e]
      exact (h.queue d (by omega)).turn T (by omega)
/-- a tape more -/
theorem HalfR.addTape {w w' : World} {o o' : Col} {R b : Nat} {g : GGraph} {caps : List Int} {qs : Ptrs} {i q : Nat} {v : RVals} {ve : Value} (h : HalfR w o R b g caps qs g.actors.length g.edges.length g.ins.length i (g.edges.length + g.ins.length) (g.edges.length + g.ins.length + i) v) (hi : i < g.outs.length) (T : Turn o o' (fun c => c = R ∨ c = R + 4) w w')
    (hB : Blk w' o' R b 40 (rigV ⟨newRig g, none⟩ { v with tapes := ve }).toArray) (hO : Own w' o' (R + 4) 48 1 ve (i + 1) (((List.range i).map fun d => ptrV (qs (g.edges.length + g.ins.length + d))) ++ [ptrV q])) (hQ : Blk w' o' (R + 4000 + (g.edges.length + g.ins.length + i)) q 47 #[.slice none 0 0]) :
    HalfR w' o' R b g caps (upd qs (g.edges.length + g.ins.length + i) q) g.actors.length g.edges.length g.ins.length (i + 1) (g.edges.length + g.ins.length) (g.edges.length + g.ins.length + i) { v with tapes := ve, rows := upd v.rows (g.edges.length + g.ins.length + i) (.slice none 0 0) } := by
  obtain ⟨f1, f2, f3, f4⟩ := h.few
  obtain ⟨m1, m2, m3, m4⟩ := h.most
  refine ⟨hB, h.tasks.turn T (by omega), ?_, ?_, ?_, fun t ht => ?_, fun d hd => ?_, fun d hd hd2 => ?_, ⟨m1, m2, m3, hi⟩, h.few⟩
  · have e : ((List.range g.edges.length).map fun d => ptrV (upd qs (g.edges.length + g.ins.length + i) q d)) = (List.range g.edges.length).map fun d => ptrV (qs d) := by
      refine List.map_congr_left fun t ht => ?_
      rw [upd_other (by have := List.mem_range.1 ht; omega)]
    rw [e]
    exact h.edges.turn T (by omega)
  · have e : ((List.range g.ins.length).map fun d => ptrV (upd qs (g.edges.length + g.ins.length + i) q (g.edges.length + d))) = (List.range g.ins.length).map fun d => ptrV (qs (g.edges.length + d)) := by
      refine List.map_congr_left fun t ht => ?_
      rw [upd_other (by have := List.mem_range.1 ht; omega)]
    rw [e]
    exact h.inputs.turn T (by omega)
  · have e : ((List.range (i + 1)).map fun d => ptrV (upd qs (g.edges.length + g.ins.length + i) q (g.edges.length + g.ins.length + d))) = ((List.range i).map fun d => ptrV (qs (g.edges.length + g.ins.length + d))) ++ [ptrV q] := by
      rw [List.range_succ, List.map_append]
      congr 1
      · refine List.map_congr_left fun t ht => ?_
        rw [upd_other (by have := List.mem_range.1 ht; omega)]
      · simp [upd_same]
    rw [e]
    exact hO
  · rw [fromS_upd q (by omega), toS_upd q (Nat.le_refl _)]
    exact (h.task t ht).turn T (fun c hc hm => by unfold MineT at hm; omega)
  · rw [upd_other (by omega)]
    exact (h.queue d hd).turn T (by omega)
  · show Blk _ _ _ _ _ #[upd v.rows (g.edges.length + g.ins.length + i) (.slice none 0 0) d] ∧ Own _ _ _ _ _ (upd v.rows (g.edges.length + g.ins.length + i) (.slice none 0 0) d) _ _
    by_cases e : d = g.edges.length + g.ins.length + i
    · subst e
      rw [upd_same, upd_same]
      exact ⟨hQ, Own.nil _ _ _ _ _⟩
    · rw [upd_other e, upd_other e]
      obtain ⟨k1, k2⟩ := h.tape d hd (by omega)
      exact ⟨k1.turn T (by omega), k2.turn T (by omega)⟩
theorem mineT_task {R t k : Nat} (hk : k < 48) : MineT (R + 100 + 64 * t) (R + 100 + 64 * t + k) := ⟨by omega, by omega⟩
/-- an in-port is linked -/
theorem HalfR.linkFrom {w : World} {o : Col} {R b : Nat} {g : GGraph} {caps : List Int} {qs : Ptrs} {nE nI nO F B : Nat} {v : RVals} (h : HalfR w o R b g caps qs g.actors.length nE nI nO F B v) {t q gs : Nat} (ht : t < g.actors.length) (hq : fromP g t q = F) (hF : F < g.edges.length + g.ins.length) (he : (v.tv t).src = .slice (some ⟨gs, 0, none⟩) (ratesI g t).length (ratesI g t).length) :
    HalfR (w.setCell ⟨gs, q, none⟩ (srcV qs g t q)) o R b g caps qs g.actors.length nE nI nO (F + 1) B v ∧ Turn o o (fun c => c = R + 100 + 64 * t + 5) w (w.setCell ⟨gs, q, none⟩ (srcV qs g t q)) := by
  obtain ⟨f1, f2, f3, f4⟩ := h.few
  obtain ⟨m1, m2, m3, m4⟩ := h.most
  obtain ⟨H, T⟩ := (h.task t ht).setSrc he q (srcV qs g t q)
  rw [fromS_set hq hF] at H
  refine ⟨⟨h.blk.turn T (by omega), h.tasks.turn T (by omega), h.edges.turn T (by omega), h.inputs.turn T (by omega), h.tapes.turn T (by omega), fun u hu => ?_, fun d hd => (h.queue d hd).turn T (by omega), fun d hd hd2 => ⟨(h.tape d hd hd2).1.turn T (by omega), (h.tape d hd hd2).2.turn T (by omega)⟩, h.most, h.few⟩, T⟩
  by_cases e : u = t
  · subst e; exact H
  · rw [← fromS_else hq e]
    exact (h.task u hu).turn T (fun c hc hm => by unfold MineT at hm; omega)
/-- an out-port is linked -/
theorem HalfR.linkTo {w : World} {o : Col} {R b : Nat} {g : GGraph} {caps : List Int} {qs : Ptrs} {nE nI nO F B : Nat} {v : RVals} (h : HalfR w o R b g caps qs g.actors.length nE nI nO F B v) {t p gd : Nat} (ht : t < g.actors.length) (hp : toP g t p = B) (hB : B < g.edges.length + g.ins.length + g.outs.length) (he : (v.tv t).dst = .slice (some ⟨gd, 0, none⟩) (ratesO g t).length (ratesO g t).length) :
    HalfR (w.setCell ⟨gd, p, none⟩ (dstV qs g t p)) o R b g caps qs g.actors.length nE nI nO F (B + 1) v ∧ Turn o o (fun c => c = R + 100 + 64 * t + 6) w (w.setCell ⟨gd, p, none⟩ (dstV qs g t p)) := by
  obtain ⟨f1, f2, f3, f4⟩ := h.few
  obtain ⟨m1, m2, m3, m4⟩ := h.most
  obtain ⟨H, T⟩ := (h.task t ht).setDst he p (dstV qs g t p)
  rw [toS_set hp hB] at H
  refine ⟨⟨h.blk.turn T (by omega), h.tasks.turn T (by omega), h.edges.turn T (by omega), h.inputs.turn T (by omega), h.tapes.turn T (by omega), fun u hu => ?_, fun d hd => (h.queue d hd).turn T (by omega), fun d hd hd2 => ⟨(h.tape d hd hd2).1.turn T (by omega), (h.tape d hd hd2).2.turn T (by omega)⟩, h.most, h.few⟩, T⟩
  by_cases e : u = t
  · subst e; exact H
  · rw [← toS_else hp e]
    exact (h.task u hu).turn T (fun c hc hm => by unfold MineT at hm; omega)
/-- behind the inputs the same ports lead somewhere -/
theorem HalfR.pass {w : World} {o : Col} {R b : Nat} {g : GGraph} {caps : List Int} {qs : Ptrs} {nI nO F n m : Nat} {v : RVals} (h : HalfR w o R b g caps qs g.actors.length g.edges.length nI nO F (g.edges.length + n) v) (hS : Sound g) (hn : n ≤ g.ins.length) (hm : m ≤ g.ins.length) : HalfR w o R b g caps qs g.actors.length g.edges.length nI nO F (g.edges.length + m) v := by
  refine { h with task := fun t ht => ?_ }
  have hp : ∀ p, p < (ratesO g t).length → toP g t p < g.edges.length ∨ g.edges.length + g.ins.length ≤ toP g t p := fun p hp => by
    rcases hS.to_lt ht hp with h | h <;> omega
  rw [← toS_ins hp hm, toS_ins hp hn]
  exact h.task t ht
/-- a new rig is as it must be -/
theorem new_ok {g : GGraph} (hS : Sound g) (hA : ActsOk g) (hs : ∀ e ∈ g.edges, ∀ x ∈ e.start, Fits x) : ROk g 256 (newRig g) ∧ ∀ d, ((newRig g).strs d).length ≤ 256 := by
  refine ⟨⟨fun t ht => ?_, fun d z hz => ?_⟩, fun d => ?_⟩
  · have e : (newRig g).tasks t = beginP (ratesI g t).length (newTask g t) := rfl
    rw [e]
    refine begin_ok hA (fun z hz => ?_) (by simp [newTask]) (by simp [newTask])
    change z ∈ keepT g t at hz
    unfold keepT at hz
    rw [List.getElem?_eq_getElem ht] at hz
    exact (keep0_facts (hA.good _ (List.getElem_mem ht)) (hA.fits _ (List.getElem_mem ht))).1 z hz
  · unfold newRig at hz
    simp only at hz
    split at hz
    · rename_i hd
      unfold edgeAt at hz
      rw [List.getElem?_eq_getElem hd] at hz
      exact hs _ (List.getElem_mem hd) z hz
    · cases hz
  · unfold newRig
    simp only
    split
    · rename_i hd
      obtain ⟨_, _, _, _, _, _, h⟩ := hS.edge d hd
      unfold edgeAt
      rw [List.getElem?_eq_getElem hd]
      exact h
    · simp
/-- colours that are not the rig's may be others -/
theorem OffRow.recolor {w : World} {o o' : Col} {c : Nat} {e : TypeId} {v : Value} {xs : List Value} (h : OffRow w o c e v xs) (ho : ∀ k, o k = c → o' k = c) : OffRow w o' c e v xs := by
  rcases h with h | ⟨g, off, cap, cur, h1, h2, h3, h⟩
  · exact .inl h
  · exact .inr ⟨g, off, cap, cur, h1, h2, ho _ h3, h⟩
theorem RigAt.recol {w : World} {o o' : Col} {R b : Nat} {g : GGraph} {caps : List Int} {N : Nat} {qs : Ptrs} {r : RunP} {v : RVals} (h : RigAt w o R b g caps N qs r v) (ho : ∀ k, MineR R (o k) → o' k = o k) : RigAt w o' R b g caps N qs r v := by
  have hc : ∀ j, j < 6000 → ∀ k, o k = R + j → o' k = R + j := fun j hj k hk => by rw [ho k (by unfold MineR; omega), hk]
  have h0 : ∀ k, o k = R → o' k = R := hc 0 (by omega)
  obtain ⟨f1, f2, f3, f4⟩ := h.few
  refine ⟨h.blk.recol (h0 _ h.blk.2), h.tasks.recolor (hc 1 (by omega)), h.edges.recolor (hc 2 (by omega)), h.inputs.recolor (hc 3 (by omega)), h.tapes.recolor (hc 4 (by omega)), fun t ht => ?_, fun d hd => ?_, fun d hd hd2 => ?_, h.few⟩
  · have k := h.task t ht
    have kc : ∀ j, j < 48 → ∀ k, o k = R + 100 + 64 * t + j → o' k = R + 100 + 64 * t + j := fun j hj k hk => by
      have := hc (100 + 64 * t + j) (by omega) k (by omega)
      omega
    obtain ⟨e1, e2, e3, e4⟩ := k.few
    refine ⟨k.blk.recol (kc 0 (by omega) _ k.blk.2), fun a ha => (k.act a ha).recol (kc 1 (by omega)) (kc 2 (by omega)), k.ins.recolor (kc 3 (by omega)), k.outs.recolor (kc 4 (by omega)), k.src.recolor (kc 5 (by omega)), k.dst.recolor (kc 6 (by omega)), ⟨k.hand.len, k.hand.blk.recol (kc 7 (by omega) _ k.hand.blk.2), fun j hj => (k.hand.row j hj).recolor (by rw [Nat.add_assoc]; exact kc _ (by omega))⟩, ?_, k.few⟩
    rcases k.gift with z | ⟨z1, z2, z3, z4⟩
    · exact .inl z
    · exact .inr ⟨z1, z2.recol (fun j hj => kc 8 (by omega) _ (z2.2 j hj)), z3, fun j hj => (z4 j hj).recolor (by rw [Nat.add_assoc]; exact kc _ (by omega))⟩
  · obtain ⟨r, q1, q2, q3⟩ := h.queue d hd
    have := hc (4000 + d) (by omega)
    exact ⟨r, q1, by rw [Nat.add_assoc]; exact this _ (by omega), fun k hk => by have := this k (by have := q3 k hk; omega); omega⟩
  · obtain ⟨q1, q2⟩ := h.tape d hd hd2
    have a1 := hc (4000 + d) (by omega)
    have a2 := hc (5000 + d) (by omega)
    exact ⟨q1.recol (by have := a1 (qs d) (by have := q1.2; omega); omega), q2.recol (fun k hk => by have := a2 k (by have := q2.2 k hk; omega); omega)⟩
theorem RigOk.recol {w : World} {o o' : Col} {R b : Nat} {g : GGraph} {caps : List Int} {M : Nat} {qs : Ptrs} {tb : Nat → Nat} {r : RunP} {v : RVals} (h : RigOk w o R b g caps M qs tb r v) (ho : ∀ k, MineR R (o k) → o' k = o k) : RigOk w o' R b g caps M qs tb r v := ⟨h.mem.recol ho, h.ok, h.len, h.tbs⟩
end Go.Proofs.Ytaholpfikcdhbaa

/- The graph's checker in memory. No function in sight. -/
namespace Go.Proofs.Ytaholpfikcdhbaa
open Go.RowKit
open Go.Maps (Keyed IsMap Tidy)

/-- the names seen: the map's entry at each is 1, and 0 elsewhere -/
def SeenAt (D : DataW Unit) (seen : List ByteArray) : Prop := IsMap D ∧ ∀ s : ByteArray, D.atKey (.string s.data.toList) (.lit (.int .i64 0)) = .lit (.int .i64 (if seen.any (fun x => decide (x = s)) then 1 else 0))

theorem smap_law : Keyed Try.prog 9 := Maps.string_keyed Try.underlying9
theorem int_zero (w : World) : (zeroValue 3).run Try.prog w = .ok (.int .i64 0) w := by kernel_rfl

theorem seen_start : SeenAt (.map []) [] := ⟨Maps.isMap_empty, fun _ => rfl⟩
theorem seen_next {D : DataW Unit} {seen : List ByteArray} (h : SeenAt D seen) (s : ByteArray) : SeenAt (D.put (.string s.data.toList) (.lit (.int .i64 1))) (seen ++ [s]) := by
  refine ⟨h.1.put _ _, fun t => ?_⟩
  by_cases e : s = t
  · subst e
    rw [Maps.atKey_put_same h.1 (by trivial)]
    simp
  · rw [Maps.atKey_put_other (fun e' => e (ByteArray.ext (Array.toList_inj.1 (by injection e' with e'; exact e'.symm)))), h.2 t]
    have : decide (s = t) = false := decide_eq_false e
    rw [List.any_append, List.any_cons, List.any_nil, this, Bool.or_false, Bool.or_false]

theorem map_turn {w w' : World} {o o' : Col} {C : Nat → Prop} {B n : Nat} {D : DataW Unit} (h : w.ownsMap Try.prog 9 (plainElem Try.prog 3) B n D) (T : Turn o o' C w w') (hc : ¬ C (o B)) : w'.ownsMap Try.prog 9 (plainElem Try.prog 3) B n D ∧ o' B = o B := by
  obtain ⟨es, clock, hb, r⟩ := h
  obtain ⟨h1, h2⟩ := T.block hb hc
  exact ⟨⟨es, clock, h1, r⟩, h2⟩

def bvs (l : List Bool) : List Value := l.map Value.bool
/-- rows of bools, each in a block of its own -/
structure Side (w : World) (o : Col) (c d : Nat) (v : Value) (side : List (List Bool)) (gs : List Nat) : Prop where
  len : gs.length = side.length
  own : Own w o c 143 1 v side.length ((List.range side.length).map fun k => .slice (some ⟨gs[k]?.getD 0, 0, none⟩) (side[k]?.getD []).length (side[k]?.getD []).length)
  rows : ∀ k, k < side.length → Blk w o d (gs[k]?.getD 0) 4 (bvs (side[k]?.getD [])).toArray
  apart : ∀ i j, i < j → j < side.length → gs[i]?.getD 0 ≠ gs[j]?.getD 0

theorem Side.nil (w : World) (o : Col) (c d : Nat) : Side w o c d (.slice none 0 0) [] [] :=
  ⟨rfl, Own.nil _ _ _ _ _, fun k hk => by simp at hk, fun i j h hj => by simp at hj⟩
theorem Side.turn {w w' : World} {o o' : Col} {C : Nat → Prop} {c d : Nat} {v : Value} {side : List (List Bool)} {gs : List Nat} (h : Side w o c d v side gs) (T : Turn o o' C w w') (hc : ¬ C c) (hd : ¬ C d) : Side w' o' c d v side gs :=
  ⟨h.len, h.own.turn T hc, fun k hk => (h.rows k hk).turn T hd, h.apart⟩

/-- the colours of what a checker owns -/
def ChkC (x : Nat) : Prop := 1 ≤ x ∧ x ≤ 6

/-- the cells of a checker: the graph's, its sides' -/
structure ChkV where
  name : ByteArray
  va : Value
  ve : Value
  vi : Value
  vo : Value
  vI : Value
  vO : Value
/-- a checker: its block, its map, its sides -/
structure ChkAt (w : World) (o : Col) (C B : Nat) (X : ChkV) (k : Chk) : Prop where
  st : ∃ D n gI gO, Blk w o 1 C 106 #[.string X.name, X.va, X.ve, X.vi, X.vo, .map (some B), X.vI, X.vO] ∧ w.ownsMap Try.prog 9 (plainElem Try.prog 3) B n D ∧ o B = 2 ∧ SeenAt D k.seen ∧ n ≤ k.seen.length ∧ Side w o 3 4 X.vI k.ins gI ∧ Side w o 5 6 X.vO k.outs gO

theorem ChkAt.turn {w w' : World} {o o' : Col} {Cs : Nat → Prop} {C B : Nat} {X : ChkV} {k : Chk} (h : ChkAt w o C B X k) (T : Turn o o' Cs w w') (hc : ∀ x, ChkC x → ¬ Cs x) : ChkAt w' o' C B X k := by
  obtain ⟨D, n, gI, gO, h1, h2, h3, h4, h5, h6, h7⟩ := h.st
  obtain ⟨m1, m2⟩ := map_turn h2 T (by rw [h3]; exact hc 2 (by unfold ChkC; omega))
  exact ⟨D, n, gI, gO, h1.turn T (hc 1 (by unfold ChkC; omega)), m1, m2.trans h3, h4, h5, h6.turn T (hc 3 (by unfold ChkC; omega)) (hc 4 (by unfold ChkC; omega)), h7.turn T (hc 5 (by unfold ChkC; omega)) (hc 6 (by unfold ChkC; omega))⟩
theorem ChkAt.cells {w : World} {o : Col} {C B : Nat} {X : ChkV} {k : Chk} (h : ChkAt w o C B X k) :
    w.cell? ⟨C, 0, none⟩ = some (.string X.name) ∧ w.cell? ⟨C, 1, none⟩ = some X.va ∧ w.cell? ⟨C, 2, none⟩ = some X.ve ∧ w.cell? ⟨C, 3, none⟩ = some X.vi ∧ w.cell? ⟨C, 4, none⟩ = some X.vo ∧ w.cell? ⟨C, 5, none⟩ = some (.map (some B)) ∧ w.cell? ⟨C, 6, none⟩ = some X.vI ∧ w.cell? ⟨C, 7, none⟩ = some X.vO := by
  obtain ⟨D, n, gI, gO, h1, _⟩ := h.st
  exact ⟨h1.cell 0 _ rfl, h1.cell 1 _ rfl, h1.cell 2 _ rfl, h1.cell 3 _ rfl, h1.cell 4 _ rfl, h1.cell 5 _ rfl, h1.cell 6 _ rfl, h1.cell 7 _ rfl⟩
theorem ChkAt.froz {w : World} {o : Col} {C B : Nat} {X : ChkV} {k : Chk} (h : ChkAt w o C B X k) (i : Nat) : w.frozen? ⟨C, i, none⟩ = false := by
  obtain ⟨D, n, gI, gO, h1, _⟩ := h.st
  exact h1.frozen i
theorem ChkAt.drewN {w : World} {o : Col} {C B : Nat} {X : ChkV} {k : Chk} (h : ChkAt w o C B X k) (m : Nat) : ChkAt (w.drewN m) o C B X k := h.turn (Turn.of_quiet o ⟨m, rfl⟩) (fun _ _ h => h)
theorem ChkAt.below {w w' : World} {o : Col} {C B : Nat} {X : ChkV} {k : Chk} (h : ChkAt w o C B X k) (c : Nat) (hb : Below w.heap.size w w') : ChkAt w' (ext o w.heap.size c) C B X k := h.turn (Turn.of_below o c hb) (fun _ _ h => h)
theorem ChkAt.ins {w : World} {o : Col} {C B : Nat} {X : ChkV} {k : Chk} (h : ChkAt w o C B X k) : ∃ gI, Side w o 3 4 X.vI k.ins gI := by
  obtain ⟨D, n, gI, gO, h1, h2, h3, h4, h5, h6, h7⟩ := h.st
  exact ⟨gI, h6⟩
theorem ChkAt.outs {w : World} {o : Col} {C B : Nat} {X : ChkV} {k : Chk} (h : ChkAt w o C B X k) : ∃ gO, Side w o 5 6 X.vO k.outs gO := by
  obtain ⟨D, n, gI, gO, h1, h2, h3, h4, h5, h6, h7⟩ := h.st
  exact ⟨gO, h7⟩
/-- a place of a side is taken -/
theorem ChkAt.tookI {w w' : World} {o : Col} {C B : Nat} {X : ChkV} {k : Chk} {ins : List (List Bool)} (h : ChkAt w o C B X k) (T : Turn o o (fun x => x = 4) w w') {gI : List Nat} (hs : Side w' o 3 4 X.vI ins gI) : ChkAt w' o C B X ⟨k.seen, ins, k.outs⟩ := by
  obtain ⟨D, n, gI', gO, h1, h2, h3, h4, h5, h6, h7⟩ := h.st
  obtain ⟨m1, m2⟩ := map_turn h2 T (by rw [h3]; decide)
  exact ⟨D, n, gI, gO, h1.turn T (by decide), m1, m2.trans h3, h4, h5, hs, h7.turn T (by decide) (by decide)⟩
theorem ChkAt.tookO {w w' : World} {o : Col} {C B : Nat} {X : ChkV} {k : Chk} {outs : List (List Bool)} (h : ChkAt w o C B X k) (T : Turn o o (fun x => x = 6) w w') {gO : List Nat} (hs : Side w' o 5 6 X.vO outs gO) : ChkAt w' o C B X ⟨k.seen, k.ins, outs⟩ := by
  obtain ⟨D, n, gI, gO', h1, h2, h3, h4, h5, h6, h7⟩ := h.st
  obtain ⟨m1, m2⟩ := map_turn h2 T (by rw [h3]; decide)
  exact ⟨D, n, gI, gO, h1.turn T (by decide), m1, m2.trans h3, h4, h5, h6.turn T (by decide) (by decide), hs⟩

theorem results_tmp_row {P : Program} {fn : Func} {p u : Tmp} {ty : TypeId} (h : fn.results = #[.tmp u, .cell p ty]) (tmps : Array Value) (w : World) (g : Nat) (t : TypeId) (cs : Array Value) (fr : Nat × Nat) (d : TypeDesc)
    (hp : tmps.getD p undef = .pointer (some ⟨g, 0, none⟩)) (hg : w.heap[g]? = some (.cells cs t fr))
    (hu : P.underlying ty = some d) (hd : (match d with | .struct _ | .array _ _ => true | _ => false) = true) (hi : (P.info? ty).map (·.size) = some cs.size) :
    (results fn tmps).run P w = .ok (.tuple #[tmps.getD u undef, .agg cs]) w := by
  have hp' : tmps[p]?.getD undef = .pointer (some ⟨g, 0, none⟩) := by simpa using hp
  simp [results, h, hp', asAddr, Result.andThen, run_loadVar_row w g t ty cs fr d hg hu hd hi]
end Go.Proofs.Ytaholpfikcdhbaa

/- Names: the walk of lex.Name. -/
namespace Go.Proofs.Ytaholpfikcdhbaa
open Go.RowKit

theorem letter_any (w : World) (b : Int) : Calls Try.prog 46 #[.int .u8 b] w (SameW (.bool (letterP b)) w) := by
  unfold letterP
  by_cases h1 : 97 ≤ b
  · rw [decide_eq_true h1, Bool.true_and]
    go_enter Try.func46, Try.ntmps46
    go_wp2
    go_ret
    exact ⟨rfl, rfl⟩
  · rw [decide_eq_false h1, Bool.false_and]
    go_enter Try.func46, Try.ntmps46
    go_wp2
    go_ret
    exact ⟨rfl, rfl⟩
theorem digit_any (w : World) (b : Int) : Calls Try.prog 51 #[.int .u8 b] w (SameW (.bool (digitP b)) w) := by
  unfold digitP
  by_cases h1 : 48 ≤ b
  · rw [decide_eq_true h1, Bool.true_and]
    go_enter Try.func51, Try.ntmps51
    go_wp2
    go_ret
    exact ⟨rfl, rfl⟩
  · rw [decide_eq_false h1, Bool.false_and]
    go_enter Try.func51, Try.ntmps51
    go_wp2
    go_ret
    exact ⟨rfl, rfl⟩
theorem inside_any (w : World) (b : Int) : Calls Try.prog 49 #[.int .u8 b] w (SameW (.bool (insideP b)) w) := by
  unfold insideP
  obtain ⟨x, hx⟩ : ∃ x, letterP b = x := ⟨_, rfl⟩
  obtain ⟨y, hy⟩ : ∃ x, digitP b = x := ⟨_, rfl⟩
  rw [hx, hy]
  have HX := Lib.hid hx
  have HY := Lib.hid hy
  clear hx hy
  cases x
  · cases y
    · go_enter Try.func49, Try.ntmps49
      go_wp2_with fail
      refine (letter_any w b).mono ?_
      rintro e _ ⟨rfl, rfl⟩
      rw [HX.out]
      go_wp2_with fail
      refine (digit_any w b).mono ?_
      rintro e _ ⟨rfl, rfl⟩
      rw [HY.out]
      go_wp2
      go_ret
      exact ⟨by simp; rfl, rfl⟩
    · go_enter Try.func49, Try.ntmps49
      go_wp2_with fail
      refine (letter_any w b).mono ?_
      rintro e _ ⟨rfl, rfl⟩
      rw [HX.out]
      go_wp2_with fail
      refine (digit_any w b).mono ?_
      rintro e _ ⟨rfl, rfl⟩
      rw [HY.out]
      go_wp2
      go_ret
      exact ⟨rfl, rfl⟩
  · go_enter Try.func49, Try.ntmps49
    go_wp2_with fail
    refine (letter_any w b).mono ?_
    rintro e _ ⟨rfl, rfl⟩
    rw [HX.out]
    go_wp2
    go_ret
    exact ⟨by simp, rfl⟩

/-- a cursor in memory -/
def Cur (w : World) (c : Nat) (s : ByteArray) (k : Nat) : Prop := w.heap[c]? = some (.cells #[.string s, .int .i64 k] 146 (0, 0))

theorem more_any (w : World) (c : Nat) (s : ByteArray) (k : Nat) (h : Cur w c s k) : Calls Try.prog 50 #[.pointer (some ⟨c, 0, none⟩)] w fun e w' => e = .returned (.bool (decide (k < s.size))) ∧ ∃ m, w' = w.drewN m := by
  have q0 := cells_row w _ h 0 _ rfl
  have q1 := cells_row w _ h 1 _ rfl
  by_cases hk : k < s.size
  · have hki : (k : Int) < s.size := by omega
    rw [decide_eq_true hk]
    go_enter Try.func50, Try.ntmps50
    go_wp2
    go_quiet (fail)
    go_wp2
    go_ret
    exact ⟨rfl, _, rfl⟩
  · have hki : ¬ (k : Int) < s.size := by omega
    rw [decide_eq_false hk]
    go_enter Try.func50, Try.ntmps50
    go_wp2
    go_quiet (fail)
    go_wp2
    go_ret
    exact ⟨rfl, _, rfl⟩

theorem peek_any (w : World) (c : Nat) (s : ByteArray) (h : Cur w c s 0) : Calls Try.prog 47 #[.pointer (some ⟨c, 0, none⟩), .int .i64 0] w fun e w' => e = .returned (.int .u8 (byteP s 0)) ∧ ∃ m, w' = w.drewN m := by
  have q0 := cells_row w _ h 0 _ rfl
  have q1 := cells_row w _ h 1 _ rfl
  unfold byteP
  by_cases hk : 0 < s.size
  · have hki : (0 : Int) < s.size := by omega
    have hse : ¬ s = ByteArray.empty := fun e => by rw [e] at hk; exact absurd hk (by decide)
    rw [dif_pos hk]
    go_enter Try.func47, Try.ntmps47
    go_wp2
    go_quiet (fail)
    go_wp2
    go_quiet (fail)
    go_wp2
    go_ret
    exact ⟨rfl, _, World.drewN_drewN _ _ _⟩
  · obtain rfl : s = ByteArray.empty := ByteArray.ext (Array.eq_empty_of_size_eq_zero (by have : s.data.size = s.size := rfl; omega))
    rw [dif_neg hk]
    clear hk
    go_enter Try.func47, Try.ntmps47
    go_wp2
    go_quiet (fail)
    go_wp2
    go_ret
    exact ⟨rfl, _, rfl⟩
end Go.Proofs.Ytaholpfikcdhbaa
