/- A range over a queue that is turned meanwhile: what a round may turn, said of the blocks. No program in sight but the queue's own calls. -/
import Derived.Test.YtifhnealecndnaaW15
namespace Go.Proofs.Ytifhnealecndnaa
open Go.RowKit Go.Shelf

theorem iq_take_any {w : World} {base b : Nat} {C : Int} {l : List Int} {r : Option Nat} {N : Nat} (h : IQ w base b C l r N) (hN : N ≤ 27000000000000) (hb : base ≤ w.heap.size) :
    Calls Try.prog 21 #[.pointer (some ⟨b, 0, none⟩)] w fun e w' => (∃ x g, e = .returned (.tuple #[.int .i64 x, .bool g])) ∧ ∃ l' r', IQ w' base b C l' r' N ∧ Mods (fun k => k = b) w w' ∧ (r' = r ∨ ∃ k, r' = some k ∧ w.heap.size ≤ k) := by
  cases l with
  | nil =>
    refine (iq_take_none h hN).mono ?_
    rintro e w' ⟨rfl, m, rfl⟩
    exact ⟨⟨_, _, rfl⟩, [], r, h.drewN m, (Mods.refl _ _).drewN m, .inl rfl⟩
  | cons x l =>
    refine (iq_take_cons h hN hb).mono ?_
    rintro e w' ⟨rfl, r', q, hm, hr⟩
    exact ⟨⟨_, _, rfl⟩, l, r', q, hm, hr⟩

theorem iq_put_any {w : World} {base b : Nat} {C X : Int} {l : List Int} {r : Option Nat} {N : Nat} (h : IQ w base b C l r N) (hN : N < 27000000000000) (hb : base ≤ w.heap.size) :
    Calls Try.prog 20 #[.pointer (some ⟨b, 0, none⟩), .int .i64 X] w fun e w' => (∃ g, e = .returned (.bool g)) ∧ ∃ l' r', IQ w' base b C l' r' (N + 1) ∧ Mods (fun k => k = b ∨ r = some k) w w' ∧ (r' = r ∨ ∃ k, r' = some k ∧ w.heap.size ≤ k) := by
  by_cases hf : (l.length : Int) < C
  · refine (iq_put_yes h hN hb hf).mono ?_
    rintro e w' ⟨rfl, r', q, hm, hr⟩
    exact ⟨⟨_, rfl⟩, _, r', q, hm, hr⟩
  · refine (iq_put_no h (by omega) (by omega)).mono ?_
    rintro e w' ⟨rfl, m, rfl⟩
    exact ⟨⟨_, rfl⟩, l, r, (h.drewN m).mono (by omega), (Mods.refl _ _).drewN m, .inl rfl⟩

/-- a queue, and a row of the call's own told by a box -/
def Rng (W : World) (base b Bs : Nat) (C : Int) (l seen : List Int) (N : Nat) (r : Option Nat) (v : Value) : Prop :=
  IQ W base b C l r N ∧ Boxed W Bs 22 v ∧ W.ownsRow base 3 1 v seen.length (seen.map (Value.int .i64)) ∧ v.ownBlock ≠ some b ∧ v.ownBlock ≠ some Bs ∧ r ≠ some Bs ∧ b ≠ Bs ∧ (∀ k, r = some k → v.ownBlock ≠ some k)

def Gq (b Bs : Nat) (W : World) (k : Nat) : Prop := k = b ∨ rowOf W b 1 = some k ∨ k = Bs ∨ rowOf W Bs 0 = some k

theorem Gq_ok {b Bs B0 : Nat} (h1 : b < B0) (h2 : Bs < B0) : GOk B0 (Gq b Bs) := fun W W' k hs g => by
  unfold Gq at g ⊢
  rw [rowOf_same (hs b h1), rowOf_same (hs Bs h2)] at g
  exact g

theorem IQ.row {W : World} {base b : Nat} {C : Int} {l : List Int} {r : Option Nat} {N : Nat} (h : IQ W base b C l r N) : rowOf W b 1 = r := by
  obtain ⟨v, g, zs, h1, _, _, _, h5, _⟩ := h
  rw [rowOf_cells h1 (v := v) rfl, h5]

/-- what a round turns: the queue's block, its line, the box, the box's row -/
abbrev Turns (b Bs : Nat) (r : Option Nat) (v : Value) (k : Nat) : Prop := k = b ∨ r = some k ∨ k = Bs ∨ v.ownBlock = some k

theorem own_cells {w : World} {base e size : Nat} {v : Value} {n : Nat} {xs : List Value} {k : Nat} (h : w.ownsRow base e size v n xs) (hk : v.ownBlock = some k) : ∃ cs t fr, w.heap[k]? = some (.cells cs t fr) := by
  rcases h.2 with ⟨rfl, _⟩ | ⟨g, cap, cur, rfl, _, hg, _⟩
  · simp [Value.ownBlock] at hk
  · obtain rfl := Option.some.inj hk
    exact ⟨_, _, _, hg⟩

theorem own_cells_t {w : World} {base e size : Nat} {v : Value} {n : Nat} {xs : List Value} {k : Nat} (h : w.ownsRow base e size v n xs) (hk : v.ownBlock = some k) : ∃ cs fr, w.heap[k]? = some (.cells cs e fr) := by
  rcases h.2 with ⟨rfl, _⟩ | ⟨g, cap, cur, rfl, _, hg, _⟩
  · simp [Value.ownBlock] at hk
  · obtain rfl := Option.some.inj hk
    exact ⟨_, _, hg⟩

theorem iq_cells_t {W : World} {base b : Nat} {C : Int} {l : List Int} {r : Option Nat} {N k : Nat} (q : IQ W base b C l r N) (hk : r = some k) : ∃ cs fr, W.heap[k]? = some (.cells cs 3 fr) := by
  obtain ⟨v, g, zs, h1, h2, _, _, h5, _⟩ := q
  exact own_cells_t h2 (h5.trans hk)

theorem rng_mono {W : World} {base b Bs : Nat} {C : Int} {l s : List Int} {N : Nat} {r : Option Nat} {v : Value} (h : Rng W base b Bs C l s N r v) : Rng W base b Bs C l s (N + 1) r v := ⟨h.1.mono (by omega), h.2⟩

theorem rng_cells {W : World} {base b Bs : Nat} {C : Int} {l s : List Int} {N : Nat} {r : Option Nat} {v : Value} (h : Rng W base b Bs C l s N r v) {k : Nat} (hk : Turns b Bs r v k) : ∃ cs t fr, W.heap[k]? = some (.cells cs t fr) := by
  obtain ⟨q, hb, ho, _⟩ := h
  rcases hk with rfl | hk | rfl | hk
  · obtain ⟨v, g, zs, h1, _⟩ := q
    exact ⟨_, _, _, h1⟩
  · obtain ⟨v, g, zs, h1, h2, _, _, h5, _⟩ := q
    exact own_cells h2 (h5.trans hk)
  · exact ⟨_, _, _, hb⟩
  · exact own_cells ho hk

theorem kp_rng {W W' : World} {base b Bs : Nat} {C : Int} {l l' s s' : List Int} {N N' : Nat} {r r' : Option Nat} {v v' : Value} (h : Rng W base b Bs C l s N r v) (h' : Rng W' base b Bs C l' s' N' r' v') (hm : Mods (Turns b Bs r v) W W')
    (hr : r' = r ∨ ∃ k, r' = some k ∧ W.heap.size ≤ k) (hv : v'.ownBlock = v.ownBlock ∨ ∃ k, v'.ownBlock = some k ∧ W.heap.size ≤ k) : KpG (Gq b Bs) W W' := by
  have e1 : rowOf W b 1 = r := h.1.row
  have e2 : rowOf W Bs 0 = v.ownBlock := rowOf_cells (show W.heap[Bs]? = _ from h.2.1) rfl
  have e1' : rowOf W' b 1 = r' := h'.1.row
  have e2' : rowOf W' Bs 0 = v'.ownBlock := rowOf_cells (show W'.heap[Bs]? = _ from h'.2.1) rfl
  refine ⟨hm.size, fun k cs t fr hk hG => hm.block k (block_lt hk) (fun f => hG ?_), fun k hk g => ?_⟩
  · unfold Gq; rw [e1, e2]; exact f
  · unfold Gq at g ⊢
    rw [e1', e2'] at g
    rw [e1, e2]
    rcases g with g | g | g | g
    · exact .inl g
    · rcases hr with rfl | ⟨k', hr, hk'⟩
      · exact .inr (.inl g)
      · rw [hr] at g; have := Option.some.inj g; omega
    · exact .inr (.inr (.inl g))
    · rcases hv with hv | ⟨k', hv, hk'⟩
      · exact .inr (.inr (.inr (hv ▸ g)))
      · rw [hv] at g; have := Option.some.inj g; omega

theorem keeps_mods {F : Nat → Prop} {W W' : World} (hm : Mods F W W') (hF : ∀ k, F k → ∃ cs t fr, W.heap[k]? = some (.cells cs t fr)) : KeepsOthers W W' :=
  ⟨hm.size, fun k o hk ho => (hm.block k (block_lt hk) (fun f => by obtain ⟨cs, t, fr, h⟩ := hF k f; rw [hk] at h; cases h; simp [Obj.isCells] at ho)).trans hk⟩

theorem rng_kept {W W' : World} {base b Bs : Nat} {C : Int} {l s : List Int} {N : Nat} {r row : Option Nat} {v : Value} (h : Rng W base b Bs C l s N r v) (hg : W.grownBy W' row) (hrow : ∀ k, row = some k → ∃ o : Obj, W.heap[k]? = some o ∧ o.isCells = false) : Rng W' base b Bs C l s N r v := by
  have hn : ∀ k, Turns b Bs r v k → row ≠ some k := fun k hk e => by
    obtain ⟨cs, t, fr, hc⟩ := rng_cells h hk
    obtain ⟨o, ho, hf⟩ := hrow k e
    rw [hc] at ho
    cases ho
    simp [Obj.isCells] at hf
  obtain ⟨q, hb, ho, rest⟩ := h
  have hm := Mods.of_grownBy hg
  exact ⟨q.frame hm (hn b (.inl rfl)) (fun k hk => hn k (.inr (.inl hk))), hb.kept hg (fun e => hn Bs (.inr (.inr (.inl rfl))) e.symm), owns_kept ho hm (fun k hk => hn k (.inr (.inr (.inr hk)))), rest⟩

theorem rng_queue {W W' : World} {base b Bs : Nat} {C : Int} {l l' s : List Int} {N N' : Nat} {r r' : Option Nat} {v : Value} {F : Nat → Prop} (h : Rng W base b Bs C l s N r v) (q' : IQ W' base b C l' r' N') (hm : Mods F W W') (hF : ∀ k, F k → k = b ∨ r = some k)
    (hr : r' = r ∨ ∃ k, r' = some k ∧ W.heap.size ≤ k) : Rng W' base b Bs C l' s N' r' v := by
  obtain ⟨q, hb, ho, h1, h2, h3, h4, h5⟩ := h
  have hBs := hb.lt
  refine ⟨q', ?_, owns_kept ho hm (fun k hk f => ?_), h1, h2, ?_, h4, fun k hk => ?_⟩
  · exact block_mods hb hm (fun f => (hF _ f).elim (fun f => h4 f.symm) h3)
  · rcases hF _ f with rfl | f
    · exact h1 hk
    · exact h5 k f hk
  · rcases hr with rfl | ⟨k, hr, hk⟩
    · exact h3
    · rw [hr]; intro e; have := Option.some.inj e; omega
  · rcases hr with rfl | ⟨k', hr, hk'⟩
    · exact h5 k hk
    · obtain rfl : k' = k := Option.some.inj (hr.symm.trans hk)
      intro e; have := (ho.lt k' e).2; omega

theorem rng_app {W w1 : World} {base b Bs : Nat} {C : Int} {l s : List Int} {N : Nat} {r : Option Nat} {v v' : Value} {tmp : Obj} (x : Int) (h : Rng W base b Bs C l s N r v) (hg : (W.alloc tmp).grownBy w1 v.ownBlock)
    (ho' : w1.ownsRow base 3 1 v' (s.length + 1) (s.map (Value.int .i64) ++ [Value.int .i64 x])) (hr : v'.ownBlock = v.ownBlock ∨ v'.ownBlock = some (W.alloc tmp).heap.size) :
    Boxed w1 Bs 22 v ∧ Rng (w1.setCell ⟨Bs, 0, none⟩ v') base b Bs C l (s ++ [x]) N r v' ∧ Mods (fun k => k = Bs ∨ v.ownBlock = some k) W (w1.setCell ⟨Bs, 0, none⟩ v') ∧ (v'.ownBlock = v.ownBlock ∨ ∃ k, v'.ownBlock = some k ∧ W.heap.size ≤ k) := by
  obtain ⟨q, hb, ho, h1, h2, h3, h4, h5⟩ := h
  have hBs := hb.lt
  obtain ⟨k1, _, k3, _⟩ := q.lt
  have hb1 : Boxed w1 Bs 22 v := (hb.alloc tmp).kept hg (fun e => h2 e.symm)
  have hm0 : Mods (fun k => k = Bs ∨ v.ownBlock = some k) W w1 := ((Mods.refl _ W).alloc tmp).grown hg (fun k hk _ => .inr hk)
  have hm := hm0.setCell (p := ⟨Bs, 0, none⟩) (fun _ => .inl rfl) v'
  have new : ∀ k, k < W.heap.size → v.ownBlock ≠ some k → v'.ownBlock ≠ some k := fun k hk hn => by
    rcases hr with hr | hr
    · rw [hr]; exact hn
    · rw [hr]; intro e; have := Option.some.inj e; simp at this; omega
  have nB := new Bs hBs h2
  refine ⟨hb1, ⟨q.frame hm (fun f => ?_) (fun k hk f => ?_), hb1.set v', ?_, new b k1 h1, nB, h3, h4, fun k hk => new k (k3 k hk).2.1 (h5 k hk)⟩, hm, ?_⟩
  · rcases f with f | f
    · exact h4 f
    · exact h1 f
  · rcases f with f | f
    · exact h3 (by rw [hk, f])
    · exact h5 k hk f
  · have := ownsRow_setCell_other ho' (a := ⟨Bs, 0, none⟩) nB v'
    simpa using this
  · rcases hr with hr | hr
    · exact .inl hr
    · exact .inr ⟨_, hr, by simp⟩

/-- a range over a func whose body may break: what follows is walked once -/
theorem wpIn_range_break {F : Fence} {n : Nat} {P : Program} {α : Type} {g : Operand} {ps : Array Tmp} {assign body : Code} {Q : Exit → Act → World → Prop} {a : Act} {w : World} {id : Nat}
    (hro : F.round = none) (h1 : 1 ≤ n) {gf : Nat} {lb : Array Value} (hg : a.eval g = .func (.func gf) #[] lb) (hFg : F.fn gf) (eg : ∀ args w, (callFunc gf args).run P w = .ok (.enter gf args) w)
    {encs : α → Array Value} {Kp : World → World → Prop} {S Sp : List α → Prop} {N : Nat} {w0 : World} (hseq : SeqStopsK F (n - 1) P gf lb encs Kp S Sp N w0)
    (hKt : ∀ {A B C : World}, Kp A B → Kp B C → Kp A C) (hKb : ∀ (W : World) (l : Nat) (o o' : Obj), w.heap.size ≤ l → W.heap[l]? = some o → o.isCells = false → o.isWalk = false → Kp W (W.putObj l o')) (hb0 : Below w0.heap.size w0 w) (hps : ∀ x, (encs x).size = ps.size)
    (I Ib : List α → World → Prop) (hI : OwnFrom w.heap.size I) (hIb : OwnFrom w.heap.size Ib) (h0 : I [] w) (a₁ : α → Act)
    (hassign : ∀ (l : Nat) (x : α) (W : World) (K : Act → World → Prop), K (a₁ x) W →
      assign.wpIn (F.inRound l) (n - 1 - 1) P (Exit.then K (fun _ _ _ => False)) { tmps := (ps.zip (encs x)).foldl (fun t (p, v) => t.setIfInBounds p v) a.tmps, defers := [] } W)
    (hbody : ∀ (l : Nat) (pre : List α) (x : α) (W : World), I pre W → pre.length < N → body.wpIn (F.inRound l) (n - 1 - 1) P (ownPostG w.heap.size Kp I (fun c pre W => c = .exit id ∧ Ib pre W) (pre ++ [x]) W) (a₁ x) W)
    (hrest : ∀ (D : Nat) (xs : List α) (W : World), w.heap.size ≤ D → (S xs ∧ I xs W ∨ Sp xs ∧ Ib xs W) → W.heap[D]? = some (.deferred (some [])) → Q .normal { a with defers := { target := .collected D, args := #[] } :: a.defers } W) :
    (Code.rangeFunc g ps assign body).wpIn F n P (Exit.inBlock id Q) a w :=
  wpIn_rangeFunc_ownG hro h1 hg hFg eg hseq hKt hKb hb0 hps I (fun c pre W => c = .exit id ∧ Ib pre W) hI (fun c => fun s W W' row h hg hr => ⟨h.1, hIb s W W' row h.2 hg hr⟩) h0 a₁ hassign hbody
    (fun D xs W hD hS hi hK => hrest D xs W hD (.inl ⟨hS, hi⟩) hK)
    (fun D c pre W hD hSp hx hK => by obtain ⟨rfl, hx⟩ := hx; exact wpIn_exit (by simpa [Exit.inBlock] using hrest D pre W hD (.inr ⟨hSp, hx⟩) hK))
end Go.Proofs.Ytifhnealecndnaa
