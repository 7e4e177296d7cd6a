/- A task: a step that takes. -/
import Derived.Test.YtaholpfikcdhbaaGreatDynRoomZ4
import Derived.Test.YtaholpfikcdhbaaGreatDynRoomZ3
namespace Go.Proofs.YtaholpfikcdhbaaGreat
open Go.RowKit
theorem vals_at2 {w : World} {o : Col} {c : Nat} {v : Value} {vs : List Value} (h : Vals w o c v vs) {k : Nat} (hk : k < vs.length) : ∃ g off cap, v = .slice (some ⟨g, off, none⟩) vs.length cap ∧ vs.length ≤ cap ∧ w.cell? ⟨g, off + k, none⟩ = some vs[k] ∧ o g = c := by
 obtain ⟨ao, cap, rfl⟩ := h.slice
 obtain ⟨g, off, rfl, _, h2, _, h4, h5⟩ := h.at (by omega)
 exact ⟨g, off, cap, rfl, h2, by rw [h5 k hk, List.getElem?_eq_getElem hk]; rfl, h4⟩
set_option maxRecDepth 100000 in
set_option maxHeartbeats 2000000 in
theorem tstep_takes {w : World} {o : Col} {M b s : Nat} {g : GGraph} {qs : Ptrs} {t : Nat} {x : TaskP} {v : TVals} {C : Nat → Prop} {F : Col → World → Prop} {X : Int} (h : TaskAt w o M b g qs t x v) (hg : x.gives = false) (hO : TOk g t s x) (hga : ActsOk g) (hp : x.port < (ratesI g t).length) (hC : ∀ k, C k → ¬ MineT M k)
  (hcall : ∀ m, Calls Tryz.prog 142 #[.agg #[.pointer (some ⟨qs (fromP g t x.port), 0, none⟩)]] (w.drewN m) (CallT (w.drewN m) o C F (.int .i64 X))) :
  Calls Tryz.prog 40 #[.pointer (some ⟨b, 0, none⟩)] w (StepT w o C F M b g qs t (tookP (rI g t x.port) x X)) := by
 obtain ⟨hgift, hpl, hfull, hnone, hless⟩ := hO.take hg
 have hlp := hless hp
 have hr := rI_pos hga hp
 have hb := h.blk
 unfold taskV at hb
 have c8 := hb.cell 8 _ rfl
 have c7 := hb.cell 7 _ rfl
 have c1 := hb.cell 1 _ rfl
 have c3 := hb.cell 3 _ rfl
 have c5 := hb.cell 5 _ rfl
 change w.cell? _ = some v.src at c1
 change w.cell? _ = some v.ins at c3
 change w.cell? _ = some (.bool x.gives) at c8
 change w.cell? _ = some (.slice (some ⟨v.hand, 0, none⟩) (ratesI g t).length (ratesI g t).length) at c5
 change w.cell? _ = some (.int .i64 (x.port : Int)) at c7
 rw [hg] at c8
 obtain ⟨gd, fd, cd, e1, e2, e3, ecol⟩ := vals_at2 h.src (k := x.port) (by simpa using hp)
 simp only [List.length_map, List.length_range, List.getElem_map, List.getElem_range] at e1 e2 e3
 rw [e1] at c1
 obtain ⟨gi, fi, ci, i1, i2, i3, icol⟩ := vals_at2 h.ins (k := x.port) (by simpa [ivs] using hp)
 simp only [ivs_len] at i1 i2
 have i4 : (ivs (ratesI g t))[x.port]'(by simpa [ivs] using hp) = .int .i64 (rI g t x.port) := by
  unfold rI
  rw [List.getElem?_eq_getElem hp]
  simp [ivs]
 rw [i4] at i3
 rw [i1] at c3
 have hhl := hO.hlen
 have hph : x.port < x.hand.length := by omega
 have hrow := h.hand.row x.port hph
 have hhv : x.port < v.hvs.length := by rw [h.hand.len]; exact hph
 have ch := h.hand.blk.cell x.port (v.hvs[x.port]'hhv) (by rw [List.getElem?_toArray, List.getElem?_eq_getElem hhv])
 obtain ⟨ra, rc, hrv⟩ := hrow.slice
 rw [ivs_len] at hrv
 rw [hrv] at ch hrow
 have hlen : lenAt x.hand x.port = (x.hand[x.port].length : Int) := by unfold lenAt; rw [List.getElem?_eq_getElem hph]; rfl
 obtain ⟨l, hl⟩ : ∃ l, x.hand[x.port] = l := ⟨_, rfl⟩
 have hgl : x.hand[x.port]?.getD [] = l := by rw [List.getElem?_eq_getElem hph, hl]; rfl
 rw [hl] at ch hrow hlen
 rw [hlen] at hlp
 have htook : tookP (rI g t x.port) x X = { x with hand := x.hand.set x.port (l ++ [X]), port := if ((l.length : Int) + 1 = rI g t x.port) then x.port + 1 else x.port } := by
  unfold tookP
  rw [hgl]
 obtain ⟨RI, hRI⟩ : ∃ r, rI g t x.port = r := ⟨_, rfl⟩
 rw [hRI] at i3 hlp hr htook ⊢
 obtain ⟨n, hn⟩ : ∃ n, (ratesI g t).length = n := ⟨_, rfl⟩
 rw [hn] at hp hhl e1 e2 c1 c3 c5 i1 i2
 have hn16 : n ≤ 16 := by rw [← hn]; exact h.few.1
 obtain ⟨p, hpe⟩ : ∃ p, x.port = p := ⟨_, rfl⟩
 obtain ⟨q, hq⟩ : ∃ q, qs (fromP g t x.port) = q := ⟨_, rfl⟩
 have hsrc : srcV qs g t x.port = .iface 112 (.agg #[.pointer (some ⟨q, 0, none⟩)]) := by unfold srcV; rw [hq]
 rw [hsrc] at e3
 rw [hq] at hcall
 rw [hpe] at c7 e3 ch hp hrow hph i3
 obtain ⟨L, hL⟩ : ∃ L, l.length = L := ⟨_, rfl⟩
 rw [hL] at ch hlp
 have hpi : (p : Int) < (n : Int) := by omega
 have hcdi : (n : Int) ≤ cd := by omega
 have hcii : (n : Int) ≤ ci := by omega
 have hd := disp_take q
 obtain ⟨i0, hi, hz0, hz1, hz2⟩ := info_parts info_int
 have H := Lib.hid h
 have HCOL := Lib.hid (And.intro ecol icol)
 clear ecol icol
 have HC := Lib.hid hC
 have HR := Lib.hid hrow
 have HI := Lib.hid hi
 have HG := Lib.hid (And.intro hn (And.intro hpe (And.intro hL (And.intro hph (And.intro hg (And.intro htook hhl))))))
 have HCALL := Lib.hid (hcall 2)
 have HLP := Lib.hid (And.intro hlp hr)
 obtain ⟨X', hX'⟩ : ∃ y, tookP RI x X = y := ⟨_, rfl⟩
 rw [hX']
 have HX' := Lib.hid hX'
 clear hX' h hC hrow hi hn hpe hL hph hg htook hhl hcall hlp hr hgift hpl hfull hnone hless hO hga hb e1 i1 i4 hlen hl hgl hRI hsrc hq hhv hrv
 go_enter Tryz.func40, Tryz.ntmps40
 go_wp2_with fail
 refine wp_region_lex (fun w' => w'.cell? ⟨b, 7, none⟩ = some (.int .i64 (p : Int)) ∧ w'.cell? ⟨b, 3, none⟩ = some (.slice (some ⟨gi, fi, none⟩) n ci)) [0, 1, 2, 3, 4, 5, 6, 7, 8, 9] [10] (by kernel_rfl) (by kernel_rfl) rfl (fun _ _ hx h => ⟨hx.cell h.1, hx.cell h.2⟩) ⟨c7, c3⟩ ?_
 intro Q' hQ'
 simp only [pickOps, List.flatMap_cons, List.flatMap_nil, List.drop_succ_cons, List.drop_zero, List.take_succ_cons, List.take_zero, List.cons_append, List.nil_append, List.append_nil]
 repeat (first
  | (refine wpReads_skip (by rfl) ?_; (try simp only [Act.put, List.setIfInBounds_toArray, List.set_cons_zero, List.set_cons_succ]))
  | (refine wpReads_cons ?_ (by rfl) (by rfl) ?_ ?_; rotate_left; (intro wz hz; (try dsimp only at hz); go_simp; try with_reducible rfl); (try simp only [Act.put, List.setIfInBounds_toArray, List.set_cons_zero, List.set_cons_succ]))
  | (refine wpReads_any ?_ (by rfl) ?_ ?_; rotate_left; (intro wz; go_simp; try with_reducible rfl); (try simp only [Act.put, List.setIfInBounds_toArray, List.set_cons_zero, List.set_cons_succ])))
 refine wpReads_nil ?_
 go_wp2_with fail
 refine wp_region_rest (fun w' => w'.cell? ⟨b, 5, none⟩ = some (.slice (some ⟨v.hand, 0, none⟩) n n) ∧ w'.cell? ⟨b, 7, none⟩ = some (.int .i64 (p : Int)) ∧ w'.cell? ⟨v.hand, p, none⟩ = some (.slice ra L rc) ∧ w'.cell? ⟨b, 1, none⟩ = some (.slice (some ⟨gd, fd, none⟩) n cd) ∧ w'.cell? ⟨gd, fd + p, none⟩ = some (.iface 112 (.agg #[.pointer (some ⟨q, 0, none⟩)]))) [0, 1, 2, 3, 4, 5, 6, 7, 8, 9, 10, 11, 12, 13, 14, 15, 16, 17, 18, 19, 20, 21, 22, 23, 24, 25, 26, 27] [28, 30] 5 (by kernel_rfl) (by kernel_rfl) rfl ⟨c5, c7, ch, c1, e3⟩ ?_
 intro Q' hQ'
 simp only [pickOps, List.flatMap_cons, List.flatMap_nil, List.drop_succ_cons, List.drop_zero, List.take_succ_cons, List.take_zero, List.cons_append, List.nil_append, List.append_nil]
 repeat (first
  | (refine wpReads_skip (by rfl) ?_; (try simp only [Act.put, List.setIfInBounds_toArray, List.set_cons_zero, List.set_cons_succ]))
  | (refine wpReads_cons ?_ (by rfl) (by rfl) ?_ ?_; rotate_left; (intro wz hz; (try dsimp only at hz); go_simp; try with_reducible rfl); (try simp only [Act.put, List.setIfInBounds_toArray, List.set_cons_zero, List.set_cons_succ]))
  | (refine wpReads_any ?_ (by rfl) ?_ ?_; rotate_left; (intro wz; go_simp; try with_reducible rfl); (try simp only [Act.put, List.setIfInBounds_toArray, List.set_cons_zero, List.set_cons_succ])))
 refine wpReads_nil ?_
 refine wpAnyT_one (i := 28) (by kernel_rfl) ?_
 simp only [pickOps, List.flatMap_cons, List.flatMap_nil, List.drop_succ_cons, List.drop_zero, List.take_succ_cons, List.take_zero, List.append_nil]
 go_wp2_with fail
 refine HCALL.out.mono ?_
 rintro e w2 ⟨o2, rfl, T, hF⟩
 have T0 : Turn o o2 C w w2 := ((Turn.refl o C w).drewN 2).trans T (fun _ h => h)
 have HT0 := Lib.hid T0
 have HF := Lib.hid hF
 have TA := H.out.turn T0 HC.out
 have HTA := Lib.hid TA
 have hb2 := TA.blk
 have no : ∀ j, j < 48 → ¬ C (M + j) := fun j hj hc => HC.out _ hc (by unfold MineT; omega)
 have d5 := T0.cell c5 (by show ¬ C (o b); rw [H.out.blk.2]; exact no 0 (by omega))
 have d7 := T0.cell c7 (by show ¬ C (o b); rw [H.out.blk.2]; exact no 0 (by omega))
 have d1 := T0.cell c1 (by show ¬ C (o b); rw [H.out.blk.2]; exact no 0 (by omega))
 have dh := T0.cell ch (by show ¬ C (o v.hand); rw [H.out.hand.blk.2]; exact no 7 (by omega))
 have d3 := T0.cell c3 (by show ¬ C (o b); rw [H.out.blk.2]; exact no 0 (by omega))
 have de := T0.cell e3 (by show ¬ C (o gd); rw [HCOL.out.1]; exact no 5 (by omega))
 have di := T0.cell i3 (by show ¬ C (o gi); rw [HCOL.out.2]; exact no 3 (by omega))
 have hcg := (T0.same gd (World.block_lt_of_cell? _ _ e3)).trans HCOL.out.1
 have hci := (T0.same gi (World.block_lt_of_cell? _ _ i3)).trans HCOL.out.2
 have HR2 := Lib.hid (HR.out.turn T0 (by have := H.out.few.2.2.1; have := HG.out.2.2.2.1; rw [Nat.add_assoc]; exact no _ (by omega)))
 clear T0 hF TA hb2 no T c5 c7 c1 ch c3 e3 i3
 go_wp2_with fail
 refine ⟨fun _ _ => ⟨d5, d7, dh, d1, de⟩, ?_⟩
 refine wpAnyT_one (i := 29) (by kernel_rfl) ?_
 simp only [pickOps, List.flatMap_cons, List.flatMap_nil, List.drop_succ_cons, List.drop_zero, List.take_succ_cons, List.take_zero, List.append_nil]
 go_wp2_with fail
 have hdi0 := Lib.hid di
 have hcg' := (ext_old (c := 0) (World.block_lt_of_cell? _ _ de)).trans hcg
 have hci' := (ext_old (c := 0) (World.block_lt_of_cell? _ _ di)).trans hci
 have HCOL2 := Lib.hid (And.intro hcg' hci')
 clear hcg hci hcg' hci'
 have Tb := Turn.of_below o2 0 (below_alloc w2 (.cells #[.int .i64 X] 3))
 have HTB := Lib.hid Tb
 have d5 := Tb.cell d5 (fun h => h)
 have d7 := Tb.cell d7 (fun h => h)
 have dh := Tb.cell dh (fun h => h)
 have d1 := Tb.cell d1 (fun h => h)
 have d3 := Tb.cell d3 (fun h => h)
 have de := Tb.cell de (fun h => h)
 have di := Tb.cell di (fun h => h)
 clear Tb
 refine ⟨fun _ _ => ⟨d5, d7, dh, d1, de⟩, ?_⟩
 refine wpAnyT_one (i := 30) (by kernel_rfl) ?_
 simp only [pickOps, List.flatMap_cons, List.flatMap_nil, List.drop_succ_cons, List.drop_zero, List.take_succ_cons, List.take_zero, List.append_nil]
 go_wp2_with (at_builtin; refine stop_here ?_)
 refine go_on ?_
 refine wpList_app_off rfl _ _ 27 rfl (ext o2 w2.heap.size 0) (M + 16 + p) 3 i0 _ 8 Tryz.underlying27 HI.out hz0 hz1 hz2 rfl (.slice ra L rc) (ivs l) rfl (by have := HR2.out.turn HTB.out (fun h => h); rw [HG.out.2.2.1] at this; exact this) (some ⟨w2.heap.size, 0, none⟩) 1 1 [.int .i64 X] rfl rfl (fun h => by cases h) (news_alloc w2 [.int .i64 X] 3) (by simp [Value.oneCell']) (by rw [ivs_len]; have := HLP.out; have := HG.out.2.2.1; unfold maxLen; omega) (grow_ok (by rw [ivs_len]; have := HLP.out; have := HG.out.2.2.1; omega)) ?_
 intro v7 w7 T7 O7
 obtain ⟨sp7, cp7, hv7⟩ := O7.slice
 have hv7n : (ivs l ++ [Value.int .i64 X]).length = L + 1 := by simp [ivs, HG.out.2.2.1]
 rw [hv7n] at hv7
 subst hv7
 have hOB : (ext o2 w2.heap.size 0) b = M := (HTB.out.same b (by have := HTA.out.blk.lt; exact this)).trans HTA.out.blk.2
 have TAb := HTA.out.turn HTB.out (fun _ h => h.elim)
 have hHB : (ext o2 w2.heap.size 0) v.hand = M + 7 := TAb.hand.blk.2
 have d5 := T7.cell d5 (by show ¬ _ = _; rw [hOB]; omega)
 have d7 := T7.cell d7 (by show ¬ _ = _; rw [hOB]; omega)
 have dh := T7.cell dh (by show ¬ _ = _; rw [hHB]; omega)
 have d1 := T7.cell d1 (by show ¬ _ = _; rw [hOB]; omega)
 have d3 := T7.cell d3 (by show ¬ _ = _; rw [hOB]; omega)
 have de := T7.cell de (by show ¬ (ext o2 w2.heap.size 0) gd = _; rw [HCOL2.out.1]; omega)
 have di := T7.cell di (by show ¬ (ext o2 w2.heap.size 0) gi = _; rw [HCOL2.out.2]; omega)
 have X7 := TAb.hand.blk.turn T7 (by omega)
 have fh := X7.frozen p
 have HT7 := Lib.hid T7
 have HO7 := Lib.hid O7
 have HTAB := Lib.hid TAb
 clear T7 O7 hOB hHB X7 hv7n TAb
 go_wp2_with fail
 refine ⟨fun _ => ⟨d5, d7, dh, d1, de⟩, ?_⟩
 refine wpAnyT_list (ks := [31, 32]) (fun _ _ hx h => ⟨hx.cell h.1, hx.cell h.2.1, hx.cell h.2.2.1, hx.cell h.2.2.2.1, hx.cell h.2.2.2.2⟩) (by kernel_rfl) ?_
 simp only [pickOps, List.flatMap_cons, List.flatMap_nil, List.drop_succ_cons, List.drop_zero, List.take_succ_cons, List.take_zero, List.cons_append, List.nil_append, List.append_nil]
 go_wp2_with fail
 have hO7 := HO7.out
 rw [show ivs l ++ [Value.int .i64 X] = ivs (l ++ [X]) by simp [ivs]] at hO7
 obtain ⟨TA8, S8⟩ := HTAB.out.handApp (by exact HG.out.2.2.2.1) HT7.out hO7
 have hb8 := TA8.blk
 unfold taskV at hb8
 have g7 := hb8.cell 7 _ rfl
 have g5 := hb8.cell 5 _ rfl
 have f7 := hb8.frozen 7
 change World.cell? _ _ = some (.slice (some ⟨v.hand, 0, none⟩) (ratesI g t).length (ratesI g t).length) at g5
 change World.cell? _ _ = some (.int .i64 (x.port : Int)) at g7
 rw [HG.out.2.1] at g7
 rw [HG.out.1] at g5
 have gh : (w7.setCell ⟨v.hand, p, none⟩ (.slice sp7 (L + 1) cp7)).cell? ⟨v.hand, p, none⟩ = some (.slice sp7 (L + 1) cp7) := TA8.hand.blk.cell p _ (by
  have : p < v.hvs.length := by rw [H.out.hand.len]; exact HG.out.2.2.2.1
  show (v.hvs.set p (.slice sp7 (L + 1) cp7)).toArray[p]? = _
  rw [List.getElem?_toArray, List.getElem?_set_self this])
 have g3 := S8.cell d3 (by show ¬ _ = _; rw [(HT7.out.same b HTAB.out.blk.lt).trans HTAB.out.blk.2]; omega)
 have gx := S8.cell di (by show ¬ _ = _; rw [(HT7.out.same gi (Nat.lt_of_lt_of_le (World.block_lt_of_cell? _ _ hdi0.out) (by simp))).trans HCOL2.out.2]; omega)
 have HTA8 := Lib.hid TA8
 have HS8 := Lib.hid S8
 clear TA8 S8 hb8 d5 d7 dh d1 d3 de di fh hO7
 refine wp_region_lex (fun w' => w'.cell? ⟨b, 5, none⟩ = some (.slice (some ⟨v.hand, 0, none⟩) n n) ∧ w'.cell? ⟨b, 7, none⟩ = some (.int .i64 (p : Int)) ∧ w'.cell? ⟨v.hand, p, none⟩ = some (.slice sp7 (L + 1) cp7) ∧ w'.cell? ⟨b, 3, none⟩ = some (.slice (some ⟨gi, fi, none⟩) n ci) ∧ w'.cell? ⟨gi, fi + p, none⟩ = some (.int .i64 RI)) [0, 1, 2, 3, 4, 5, 6, 7, 8, 9, 10, 11, 12, 13, 14, 15, 16, 17, 18, 19, 20, 21] [] (by kernel_rfl) (by kernel_rfl) rfl (fun _ _ hx h => ⟨hx.cell h.1, hx.cell h.2.1, hx.cell h.2.2.1, hx.cell h.2.2.2.1, hx.cell h.2.2.2.2⟩) ⟨g5, g7, gh, g3, gx⟩ ?_
 intro Q' hQ'
 simp only [pickOps, List.flatMap_cons, List.flatMap_nil, List.drop_succ_cons, List.drop_zero, List.take_succ_cons, List.take_zero, List.cons_append, List.nil_append, List.append_nil]
 repeat (first
  | (refine wpReads_skip (by rfl) ?_; (try simp only [Act.put, List.setIfInBounds_toArray, List.set_cons_zero, List.set_cons_succ]))
  | (refine wpReads_cons ?_ (by rfl) (by rfl) ?_ ?_; rotate_left; (intro wz hz; (try dsimp only at hz); go_simp; try with_reducible rfl); (try simp only [Act.put, List.setIfInBounds_toArray, List.set_cons_zero, List.set_cons_succ]))
  | (refine wpReads_any ?_ (by rfl) ?_ ?_; rotate_left; (intro wz; go_simp; try with_reducible rfl); (try simp only [Act.put, List.setIfInBounds_toArray, List.set_cons_zero, List.set_cons_succ])))
 refine wpReads_nil ?_
 have hST : Turn o2 (ext (ext o2 w2.heap.size 0) (w2.alloc (.cells #[.int .i64 X] 3)).heap.size (M + 16 + p)) (MineT M) w2 (w7.setCell ⟨v.hand, p, none⟩ (.slice sp7 (L + 1) cp7)) :=
  ((HTB.out.mono (D := MineT M) (fun _ h => h.elim)).trans (HT7.out.mono (D := MineT M) (fun c hc => by have := HTAB.out.few.2.2.1; have := HG.out.2.2.2.1; rw [hc]; unfold MineT; omega)) (fun _ h => h)).trans (HS8.out.mono (D := MineT M) (fun c hc => by rw [hc]; unfold MineT; omega)) (fun _ h => h)
 have HST := Lib.hid hST
 clear hST
 by_cases hLR : (L : Int) + 1 = RI
 ·
  have hli : ((L : Int) + 1 == RI) = true := by rw [beq_iff_eq]; omega
  have hwr : IntKind.i64.wrap ((p : Int) + 1) = (p : Int) + 1 := IntWalk.i64_in _ (by omega)
  have HLR := Lib.hid hLR
  clear hLR
  obtain ⟨TA9, S9⟩ := HTA8.out.fields (x' := { x with hand := x.hand.set p (l ++ [X]), port := p + 1 }) (i := 7) (u := .int .i64 ((p : Int) + 1)) (by unfold taskV; simp) rfl rfl rfl rfl rfl
  have HTA9 := Lib.hid TA9
  have HS9 := Lib.hid S9
  clear TA9 S9
  go_wp2_with fail
  go_ret
  have hX : X' = { x with hand := x.hand.set p (l ++ [X]), port := p + 1 } := by
   rw [← HX'.out, HG.out.2.2.2.2.2.1, if_pos (by rw [HG.out.2.2.1]; exact HLR.out), HG.out.2.1]
  rw [hX]
  exact ⟨o2, w2, _, _, rfl, HT0.out, HF.out, (HST.out.trans (HS9.out.mono (mineT_self M)) (fun _ h => h)).drewN 1, HTA9.out.drewN 1⟩
 ·
  have hli : ((L : Int) + 1 == RI) = false := by rw [beq_eq_false_iff_ne]; omega
  have HLR := Lib.hid hLR
  clear hLR
  go_wp2_with fail
  go_ret
  have hX : X' = { x with hand := x.hand.set p (l ++ [X]) } := by
   rw [← HX'.out, HG.out.2.2.2.2.2.1, if_neg (by rw [HG.out.2.2.1]; exact HLR.out), HG.out.2.1]
  rw [hX]
  exact ⟨o2, w2, _, _, rfl, HT0.out, HF.out, HST.out.drewN 1, HTA8.out.drewN 1⟩
end Go.Proofs.YtaholpfikcdhbaaGreat

/- A firing whose outcome is kept: each row in a colour of its own. -/
namespace Go.Proofs.YtaholpfikcdhbaaGreat
open Go.RowKit
section
variable {w : World} {o o' : Col}
theorem Vals.recolor {c : Nat} {v : Value} {vs : List Value} (h : Vals w o c v vs) (ho : ∀ k, o k = c → o' k = c) : Vals w o' c v vs := by
 rcases h with h | ⟨hp, b, off, cap, e, hl, hb, hc, hcl⟩
 ·
  exact .inl h
 ·
  exact .inr ⟨hp, b, off, cap, e, hl, hb, ho b hc, hcl⟩
theorem BodyAt.recol {c d b : Nat} {t : Int} {ps keep : List Int} {n : Int} {K : Nat} {vi vo vt vs : Value} (h : BodyAt w o c d b t ps keep n K vi vo vt vs) (hc : ∀ k, o k = c → o' k = c) (hd : ∀ k, o k = d → o' k = d) : BodyAt w o' c d b t ps keep n K vi vo vt vs :=
 ⟨h.body.recol (hd b h.body.2), h.kind.recol (hc K h.kind.2), h.ins.recolor hd, h.outs.recolor hd, fun e => ⟨(h.taps e).1.recolor hd, (h.taps e).2.1.recolor hd, (h.taps e).2.2⟩, h.good, h.fitp, h.fitk, h.keep1, h.keep2, h.fitn, h.ne⟩
theorem Act.recol {c d b : Nat} {t : Int} {ps keep : List Int} {n : Int} (h : Act w o c d b t ps keep n) (hc : ∀ k, o k = c → o' k = c) (hd : ∀ k, o k = d → o' k = d) : Act w o' c d b t ps keep n := by
 obtain ⟨K, vi, vo, vt, vs, h⟩ := h
 exact ⟨K, vi, vo, vt, vs, h.recol hc hd⟩
end
def GiftNew (w : World) (o : Col) (c d : Nat) (gv : Value) (l : List (List Int)) (vs : List Value) : Prop :=
 Own w o c 27 1 gv l.length vs ∧ vs.length = l.length ∧ ∀ k (h : k < l.length), OffRow w o (d + k) 3 (vs[k]?.getD undef) (ivs l[k])
open Classical in
theorem fire_gift {w : World} {o : Col} {c d b : Nat} {t : Int} {ps keep : List Int} {n : Int} {insv : Value} {xss : List (List Int)} (c8 d8 : Nat) (h : Act w o c d b t ps keep n) (hins : LL w insv xss) (hf : ∀ l ∈ xss, ∀ x ∈ l, Fits x) (hn1 : Fits (n + 1)) :
  Calls Tryz.prog 64 #[.pointer (some ⟨b, 0, none⟩), insv] w fun e w' => ∃ gv o' vs, e = .returned (.tuple #[gv, .int .i64 (shot t ps keep n xss).err]) ∧ Turn o o' (fun x => x = c) w w' ∧ Act w' o' c d b t ps (shot t ps keep n xss).keep (shot t ps keep n xss).n ∧ GiftNew w' o' c8 d8 gv (shot t ps keep n xss).outs vs := by
 obtain ⟨E, hE⟩ : ∃ E, E = c + d + 1 := ⟨_, rfl⟩
 obtain ⟨oz, hoz⟩ : ∃ oz : Col, oz = fun k => if o k = E then E + 1 else o k := ⟨_, rfl⟩
 have z1 : ∀ k, oz k ≠ E := fun k => by
  rw [hoz]
  show (if o k = E then E + 1 else o k) ≠ E
  split
  ·
   omega
  ·
   assumption
 have z2 : ∀ k, oz k ≠ E + 1 → oz k = o k := fun k => by
  rw [hoz]
  show (if o k = E then E + 1 else o k) ≠ E + 1 → (if o k = E then E + 1 else o k) = o k
  split
  ·
   intro h; exact absurd rfl h
  ·
   intro _; rfl
 have z3 : ∀ k, o k ≠ E → oz k = o k := fun k hk => by
  rw [hoz]
  show (if o k = E then E + 1 else o k) = o k
  rw [if_neg hk]
 have hz : Act w oz c d b t ps keep n := h.recol (fun k hk => by rw [z3 k (by omega), hk]) (fun k hk => by rw [z3 k (by omega), hk])
 refine (fire_uni E (by omega) hz hins hf hn1).mono ?_
 rintro e w' ⟨gv, o1, rfl, T, hA, vs, v1, v2, v3, v4, v5⟩
 obtain ⟨outs, hout⟩ : ∃ x, (shot t ps keep n xss).outs = x := ⟨_, rfl⟩
 rw [hout] at v1 v3 v4 v5 ⊢
 have new : ∀ k, o1 k = E → w.heap.size ≤ k := fun k hk => by
  rcases Nat.lt_or_ge k w.heap.size with h | h
  ·
   rw [T.same k h] at hk
   exact absurd hk (z1 k)
  ·
   exact h
 obtain ⟨o2, ho2⟩ : ∃ o2 : Col, o2 = fun k => if k < w.heap.size then o k else if gv.ownBlock = some k then c8 else if hj : ∃ j, j < outs.length ∧ (vs[j]?.getD undef).ownBlock = some k then d8 + Classical.choose hj else o1 k := ⟨_, rfl⟩
 have hold : ∀ k, k < w.heap.size → o2 k = o k := fun k hk => by rw [ho2]; exact if_pos hk
 have hel : ∀ k, o1 k ≠ E → w.heap.size ≤ k → o2 k = o1 k := fun k hk hs => by
  rw [ho2]
  show (if k < w.heap.size then o k else if gv.ownBlock = some k then c8 else if hj : ∃ j, j < outs.length ∧ (vs[j]?.getD undef).ownBlock = some k then d8 + Classical.choose hj else o1 k) = o1 k
  rw [if_neg (by omega), if_neg (fun hg => hk (v2.2 k hg)), dif_neg (fun hj => by
   obtain ⟨j, j1, j2⟩ := hj
   exact hk ((v3 j j1).2 k j2))]
 refine ⟨gv, o2, vs, rfl, ⟨T.mods.mono (fun k hk hc => ?_), hold⟩, hA.recol (fun k hk => ?_) (fun k hk => ?_), ?_, v1, fun j hj => ?_⟩
 ·
  show o k = c
  have hc : oz k = c := hc
  rw [← z2 k (by omega)]
  exact hc
 ·
  rcases Nat.lt_or_ge k w.heap.size with hs | hs
  ·
   rw [T.same k hs] at hk
   rw [hold k hs, ← z2 k (by omega)]
   exact hk
  ·
   rw [hel k (by omega) hs]
   exact hk
 ·
  rcases Nat.lt_or_ge k w.heap.size with hs | hs
  ·
   rw [T.same k hs] at hk
   rw [hold k hs, ← z2 k (by omega)]
   exact hk
  ·
   rw [hel k (by omega) hs]
   exact hk
 ·
  rw [← v1]
  refine v2.recol (fun k hk => ?_)
  have hs := new k (v2.2 k hk)
  rw [ho2]
  show (if k < w.heap.size then o k else if gv.ownBlock = some k then c8 else _) = c8
  rw [if_neg (by omega), if_pos hk]
 ·
  have hr := v3 j hj
  rw [List.getElem?_eq_getElem hj] at hr
  refine OffRow.of_own (n := outs[j].length) (hr.recol (fun k hk => ?_))
  have hs := new k (hr.2 k hk)
  have hx : ∃ j, j < outs.length ∧ (vs[j]?.getD undef).ownBlock = some k := ⟨j, hj, hk⟩
  rw [ho2]
  show (if k < w.heap.size then o k else if gv.ownBlock = some k then c8 else if hj : ∃ j, j < outs.length ∧ (vs[j]?.getD undef).ownBlock = some k then d8 + Classical.choose hj else o1 k) = d8 + j
  rw [if_neg (by omega), if_neg (v5 j k hj hk), dif_pos hx]
  obtain ⟨y1, y2⟩ := Classical.choose_spec hx
  congr 1
  rcases Nat.lt_trichotomy (Classical.choose hx) j with hlt | heq | hgt
  ·
   exact absurd hk (v4 _ j k hlt hj y2)
  ·
   exact heq
  ·
   exact absurd y2 (v4 j _ k hgt y1 hk)
theorem TaskAt.fired {w w2 : World} {o o2 : Col} {M b : Nat} {g : GGraph} {qs : Ptrs} {t : Nat} {x : TaskP} {v : TVals} {S : Shot} {gv : Value} {gs : List Value} (h : TaskAt w o M b g qs t x v) (T0 : Turn o o2 (fun c => c = M + 1) w w2) (hA : ∀ a, g.actors[t]? = some a → Act w2 o2 (M + 1) (M + 2) v.body a.tag a.params S.keep S.n) (hG : GiftNew w2 o2 (M + 8) (M + 32) gv S.outs gs) (hol : S.outs.length ≤ 16) :
  TaskAt (((w2.setCell ⟨b, 6, none⟩ gv).setCell ⟨b, 8, none⟩ (.bool true)).setCell ⟨b, 7, none⟩ (.int .i64 0)) o2 M b g qs t { x with keep := S.keep, n := S.n, gift := S.outs, gives := true, port := 0 } { v with gift := gv, gvs := gs } ∧ Turn o2 o2 (fun c => c = M) w2 (((w2.setCell ⟨b, 6, none⟩ gv).setCell ⟨b, 8, none⟩ (.bool true)).setCell ⟨b, 7, none⟩ (.int .i64 0)) := by
 obtain ⟨B1, S1⟩ := (h.blk.turn T0 (by omega)).set 6 gv
 obtain ⟨B2, S2⟩ := B1.set 8 (.bool true)
 obtain ⟨B3, S3⟩ := B2.set 7 (.int .i64 0)
 have SS := (S1.trans S2 (fun _ h => h)).trans S3 (fun _ h => h)
 have TS := (T0.mono (D := fun c => c = M + 1 ∨ c = M) (fun c hc => .inl hc)).trans (SS.mono (D := fun c => c = M + 1 ∨ c = M) (fun c hc => .inr hc)) (fun _ h => h)
 obtain ⟨f1, f2, f3, f4⟩ := h.few
 obtain ⟨g1, g2, g3⟩ := hG
 refine ⟨⟨?_, fun a ha => (hA a ha).turn SS (by omega) (by omega), h.ins.turn TS (by omega), h.outs.turn TS (by omega), h.src.turn TS (by omega), h.dst.turn TS (by omega), h.hand.turn TS (by omega) (fun k _ => by omega), .inr ⟨rfl, g1.turn SS (by omega), g2, fun k hk => (g3 k hk).turn SS (by omega)⟩, f1, f2, f3, hol⟩, SS⟩
 have hcs : (((taskV x v (ratesI g t).length).toArray.setIfInBounds 6 gv).setIfInBounds 8 (.bool true)).setIfInBounds 7 (.int .i64 0) = (taskV { x with keep := S.keep, n := S.n, gift := S.outs, gives := true, port := 0 } { v with gift := gv, gvs := gs } (ratesI g t).length).toArray := by
  unfold taskV
  simp
 rw [hcs] at B3
 exact B3
theorem TaskAt.failed {w w2 : World} {o o2 : Col} {M b : Nat} {g : GGraph} {qs : Ptrs} {t : Nat} {x : TaskP} {v : TVals} (h : TaskAt w o M b g qs t x v) (T0 : Turn o o2 (fun c => c = M + 1) w w2) (hA : ∀ a, g.actors[t]? = some a → Act w2 o2 (M + 1) (M + 2) v.body a.tag a.params x.keep x.n) : TaskAt w2 o2 M b g qs t x v :=
 ⟨h.blk.turn T0 (by omega), hA, h.ins.turn T0 (by omega), h.outs.turn T0 (by omega), h.src.turn T0 (by omega), h.dst.turn T0 (by omega), h.hand.turn T0 (by omega) (fun k _ => by omega), h.gift.turn T0 (by omega) (fun k _ => by omega), h.few⟩
theorem shot_fail {t : Int} {ps keep : List Int} {n : Int} {xss : List (List Int)} (h : (shot t ps keep n xss).err ≠ 0) : (shot t ps keep n xss).keep = keep ∧ (shot t ps keep n xss).n = n := by
 unfold shot at h ⊢
 split
 ·
  rename_i hf
  rw [if_pos hf] at h
  split
  ·
   rename_i hr
   rw [hr] at h
   exact absurd rfl h
  ·
   exact ⟨rfl, rfl⟩
 ·
  exact ⟨rfl, rfl⟩
theorem shot_few {g : GGraph} (hg : ActsOk g) {t : Nat} (ht : t < g.actors.length) {x : TaskP} (he : (shotP g t x).err = 0) : (shotP g t x).outs.length = (ratesO g t).length := by
 have ha : g.actors[t]? = some g.actors[t] := List.getElem?_eq_getElem ht
 have hgood := hg.good _ (List.getElem_mem ht)
 have eO : ratesO g t = outsP g.actors[t].tag g.actors[t].params := by unfold ratesO; rw [ha]
 have eS : shotP g t x = shot g.actors[t].tag g.actors[t].params x.keep x.n x.hand := by unfold shotP; rw [ha]
 rw [eS] at he ⊢
 unfold shot at he ⊢
 split
 ·
  rename_i hfit
  rw [if_pos hfit] at he
  split
  ·
   rename_i outs keep' hr
   have := congrArg List.length (reck_lens hgood hfit hr)
   rw [List.length_map] at this
   rw [eO]
   exact this
  ·
   rename_i hr
   rw [hr] at he
   cases he
 ·
  rename_i hfit
  rw [if_neg hfit] at he
  cases he
end Go.Proofs.YtaholpfikcdhbaaGreat

/- A region that draws its order: reads, then whatever is ready; what only looks at answers, later. No program in sight. -/
namespace Go.Proofs.YtaholpfikcdhbaaGreat
section
variable {P : Program} {md : Region.Mode} {ops : Array Oper} {Q : Exit → Go.Act → World → Prop} {S : World → Prop}
def closedB (md : Region.Mode) (ops : Array Oper) (listed : Array Bool) : Bool :=
 (List.range ops.size).all fun j => !(listed.getD j false) || (match ops[j]? with | none => true | some o => o.after.all fun e => !(Region.binds md e) || listed.getD e.on false)
theorem closedL_of_B {listed : Array Bool} (h : closedB md ops listed = true) : closedL md ops listed := by
 intro j oj hj hl e he hb
 have hlt := (Array.getElem?_eq_some_iff.1 hj).1
 have h1 := List.all_eq_true.1 h j (List.mem_range.2 hlt)
 rw [hl, hj] at h1
 simp only [Bool.not_true, Bool.false_or] at h1
 have h2 := Array.all_eq_true'.1 h1 e he
 rw [hb] at h2
 simpa using h2
def hbeB (md : Region.Mode) (ops : Array Oper) (reads M : List Nat) : Bool :=
 Region.noSelect ops && (reads.all fun i => anyAt ops i || (List.range ops.size).all fun j => madeB ops j || reads.contains j || M.contains j || behindB md ops ops.size j i)
theorem hbe_of {reads M : List Nat} (h : hbeB md ops reads M = true) : Region.noSelect ops = true ∧ ∀ i ∈ reads, anyAt ops i = false → ∀ j, j < ops.size → madeB ops j = true ∨ reads.contains j = true ∨ M.contains j = true ∨ behindB md ops ops.size j i = true := by
 simp only [hbeB, Bool.and_eq_true, List.all_eq_true, List.mem_range, Bool.or_eq_true] at h
 refine ⟨h.1, fun i hi hany j hj => ?_⟩
 rcases h.2 i hi with h0 | h0
 ·
  rw [hany] at h0; cases h0
 rcases h0 j hj with ((h1 | h1) | h1) | h1
 ·
  exact .inl h1
 ·
  exact .inr (.inl h1)
 ·
  exact .inr (.inr (.inl h1))
 ·
  exact .inr (.inr (.inr h1))
theorem wp_region_drift {id : Nat} {l : List Oper} {a : Go.Act} {w : World} (S : World → Prop) (reads M r : List Nat) (n : Nat) (hm : P.follows .mixedOrders = true)
  (hB : (hbeB .any l.toArray reads M && stageHead .any l.toArray (fun _ => true) r (Array.replicate l.toArray.size false) && r.all fun i => reads.contains i) = true) (hlen : r.length + n = l.length) (hS : S w.drew)
  (h : ∀ Q' : Exit → Go.Act → World → Prop, (∀ a w, Q .normal a w → Q' .normal a w) → (∀ c a a' w, Q' (.panic c) a w → Q' (.panic c) a' w) → wpReads P l.toArray S (fun a' => wpAnyT P .any l.toArray Q' S (bsOf l.toArray reads M) n (setAll (Array.replicate l.length false) r) a' w.drew) (pickOps l.toArray r) a) : (Code.region id l.toArray true).wp P Q a w := by
 refine wp_region_noPanic ?_
 refine wp_region_any hm ?_
 simp only [Bool.and_eq_true] at hB
 obtain ⟨⟨hb, hl⟩, hr⟩ := hB
 obtain ⟨hsel, hbe⟩ := hbe_of hb
 refine wpAny_of_T (S := S) (B := bsOf l.toArray reads M) _ _ _ _ ?_
 have key := wpAnyT_reads (P := P) (md := .any) (Q := NoPanic Q) (S := S) (reads := reads) (M := M) (n := n) hsel (fun c a a' w h => h) hbe r (Array.replicate l.toArray.size false) a { w with drawn := w.drawn + 1 } (fun i hi => by simpa using List.all_eq_true.1 hr i hi)
  (fun j oj _ hl => by rw [getD_replicate_false] at hl; cases hl) hl hS (by simpa using h (NoPanic Q) (fun _ _ h => NoPanic.normal h) (fun c a a' w h => h))
 rw [hlen] at key
 simpa using key
theorem wpAnyT_later {reads M : List Nat} {r : List Nat} {n : Nat} {listed : Array Bool} {a : Go.Act} {w : World} (hQ : ∀ c a a' w, Q (.panic c) a w → Q (.panic c) a' w)
  (hB : (hbeB md ops reads M && closedB md ops listed && stageHead md ops (fun _ => true) r listed && r.all fun i => reads.contains i) = true) (hS : S w) (h : wpReads P ops S (fun a' => wpAnyT P md ops Q S (bsOf ops reads M) n (setAll listed r) a' w) (pickOps ops r) a) : wpAnyT P md ops Q S (bsOf ops reads M) (r.length + n) listed a w := by
 simp only [Bool.and_eq_true] at hB
 obtain ⟨⟨⟨hb, hc⟩, hl⟩, hr⟩ := hB
 obtain ⟨hsel, hbe⟩ := hbe_of hb
 exact wpAnyT_reads hsel hQ hbe r listed a w (fun i hi => by simpa using List.all_eq_true.1 hr i hi) (closedL_of_B hc) hl hS h
theorem wpAnyT_three {B : Nat → Bool} {n i k m : Nat} {listed : Array Bool} {a : Go.Act} {w : World} (hr : Region.ready md ops listed = [i, k, m]) (h : wpList P ops (EndK Q fun a' w' => (B i = true → S w → S w') ∧ wpAnyT P md ops Q S B n (listed.setIfInBounds i true) a' w') (pickOps ops [i]) a w)
  (h' : wpList P ops (EndK Q fun a' w' => (B k = true → S w → S w') ∧ wpAnyT P md ops Q S B n (listed.setIfInBounds k true) a' w') (pickOps ops [k]) a w)
  (h'' : wpList P ops (EndK Q fun a' w' => (B m = true → S w → S w') ∧ wpAnyT P md ops Q S B n (listed.setIfInBounds m true) a' w') (pickOps ops [m]) a w) : wpAnyT P md ops Q S B (n + 1) listed a w := by
 have hi : i ∈ Region.ready md ops listed := by rw [hr]; simp
 have hk : k ∈ Region.ready md ops listed := by rw [hr]; simp
 have hm : m ∈ Region.ready md ops listed := by rw [hr]; simp
 refine ⟨fun h0 => (by rw [h0] at hr; cases hr), fun j hj => ?_⟩
 rw [hr] at hj
 rcases List.mem_cons.1 hj with rfl | hj
 ·
  exact wpOp_of_list (ready_lt hi) h
 rcases List.mem_cons.1 hj with rfl | hj
 ·
  exact wpOp_of_list (ready_lt hk) h'
 ·
  obtain rfl : j = m := by simpa using hj
  exact wpOp_of_list (ready_lt hm) h''
end
end Go.Proofs.YtaholpfikcdhbaaGreat

/- A task: a step that fires. -/
namespace Go.Proofs.YtaholpfikcdhbaaGreat
open Go.RowKit
theorem RowsAt.ll {w : World} {o : Col} {c d g : Nat} {l : List (List Int)} {vs : List Value} (h : RowsAt w o c d g l vs) : LL w (.slice (some ⟨g, 0, none⟩) l.length l.length) l := by
 have := vals_of_cells (w := w) (o := o) (c := c) (ao := some ⟨g, 0, none⟩) (vs := vs) (cap := l.length) (by rw [h.len]; exact Nat.le_refl _) (fun h => by cases h) (fun a ha => by cases ha; rfl) (fun ad had j u hu => by
  obtain rfl := Option.some.inj had
  rw [Addr.add_lit, Nat.zero_add]
  exact h.blk.cell j u (by simpa using hu)) (fun a ha _ => by cases ha; exact h.blk.2)
 rw [h.len] at this
 refine ⟨vs, h.len, this.has, fun k hk => ?_⟩
 have hr := (h.row k hk).vals.has
 rw [List.getElem?_eq_getElem (by rw [h.len]; exact hk), List.getElem?_eq_getElem hk]
 exact hr
def FireT (w : World) (o : Col) (M b : Nat) (g : GGraph) (qs : Ptrs) (t : Nat) (x : TaskP) (S : Shot) (x' : TaskP) (e : Ending) (w' : World) : Prop :=
 ∃ o' v', Turn o o' (MineT M) w w' ∧ ((S.err ≠ 0 ∧ e = .returned (.bool false) ∧ TaskAt w' o' M b g qs t x v') ∨ (S.err = 0 ∧ e = .returned (.bool true) ∧ TaskAt w' o' M b g qs t x' v'))
set_option maxRecDepth 100000 in
set_option maxHeartbeats 2000000 in
theorem tstep_fires {w : World} {o : Col} {M b s : Nat} {g : GGraph} {qs : Ptrs} {t : Nat} {x : TaskP} {v : TVals} (h : TaskAt w o M b g qs t x v) (hg : x.gives = false) (hO : TOk g t s x) (hga : ActsOk g) (ht : t < g.actors.length) (hs : s < 4611686018427387904) (hp : ¬ x.port < (ratesI g t).length) :
  Calls Tryz.prog 40 #[.pointer (some ⟨b, 0, none⟩)] w (FireT w o M b g qs t x (shotP g t x) (firedP (ratesI g t).length (ratesO g t).length x (shotP g t x))) := by
 obtain ⟨hgift, hpl, hfull, hnone, hless⟩ := hO.take hg
 have hwh : x.whole < 4611686018427387904 := by have := hO.whole; omega
 have hn1 : Fits (x.n + 1) := by have := hO.num; unfold Fits; omega
 have ha : g.actors[t]? = some g.actors[t] := List.getElem?_eq_getElem ht
 have hS : shotP g t x = shot g.actors[t].tag g.actors[t].params x.keep x.n x.hand := by unfold shotP; rw [ha]
 have hact := h.act _ ha
 have hfail : (shotP g t x).err ≠ 0 → (shotP g t x).keep = x.keep ∧ (shotP g t x).n = x.n := by rw [hS]; exact shot_fail
 have hfew : (shotP g t x).err = 0 → (shotP g t x).outs.length ≤ 16 := fun he => by rw [shot_few hga ht he]; exact h.few.2.1
 have HFA := Lib.hid (And.intro hfail (And.intro hfew ha))
 clear hfail hfew
 have hll := h.hand.ll
 rw [hO.hlen] at hll
 have hfire := fun m => fire_gift (M + 8) (M + 32) (hact.drewN m) (hll.below (below_dr (n := m) (Below.refl _ w))) hO.hfit hn1
 rw [← hS] at hfire
 have hb := h.blk
 unfold taskV at hb
 have c8 := hb.cell 8 _ rfl
 have c7 := hb.cell 7 _ rfl
 have c0 := hb.cell 0 _ rfl
 have c3 := hb.cell 3 _ rfl
 have c5 := hb.cell 5 _ rfl
 obtain ⟨ia, ic, hia⟩ := h.ins.slice
 change w.cell? _ = some v.ins at c3
 change w.cell? _ = some (.bool x.gives) at c8
 change w.cell? _ = some (.slice (some ⟨v.hand, 0, none⟩) (ratesI g t).length (ratesI g t).length) at c5
 change w.cell? _ = some (.int .i64 (x.port : Int)) at c7
 rw [hg] at c8
 rw [hia] at c3
 have hpe : x.port = (ratesI g t).length := by omega
 obtain ⟨n, hn⟩ : ∃ n, (ratesI g t).length = n := ⟨_, rfl⟩
 rw [hn] at c3 c5 hpe hfire
 rw [hpe] at c7
 have H := Lib.hid h
 have HF := Lib.hid (hfire 2)
 have HG := Lib.hid (And.intro hn (And.intro hg (And.intro hwh hgift)))
 obtain ⟨X', hX'⟩ : ∃ y, firedP n (ratesO g t).length x (shotP g t x) = y := ⟨_, rfl⟩
 rw [hn, hX']
 have HX' := Lib.hid hX'
 obtain ⟨er, her⟩ : ∃ y, (shotP g t x).err = y := ⟨_, rfl⟩
 have HER := Lib.hid her
 clear hX' h hg hO hgift hpl hfull hnone hless hn1 ha hact hll hfire hb hia hpe hn hwh hs hp her
 go_enter Tryz.func40, Tryz.ntmps40
 go_wp2_with fail
 refine wp_region_lex (fun w' => w'.cell? ⟨b, 7, none⟩ = some (.int .i64 (n : Int)) ∧ w'.cell? ⟨b, 3, none⟩ = some (.slice ia n ic)) [0, 1, 2, 3, 4, 5, 6, 7, 8, 9] [10] (by kernel_rfl) (by kernel_rfl) rfl (fun _ _ hx h => ⟨hx.cell h.1, hx.cell h.2⟩) ⟨c7, c3⟩ ?_
 intro Q' hQ'
 simp only [pickOps, List.flatMap_cons, List.flatMap_nil, List.drop_succ_cons, List.drop_zero, List.take_succ_cons, List.take_zero, List.cons_append, List.nil_append, List.append_nil]
 repeat (first
  | (refine wpReads_skip (by rfl) ?_; (try simp only [Act.put, List.setIfInBounds_toArray, List.set_cons_zero, List.set_cons_succ]))
  | (refine wpReads_cons ?_ (by rfl) (by rfl) ?_ ?_; rotate_left; (intro wz hz; (try dsimp only at hz); go_simp; try with_reducible rfl); (try simp only [Act.put, List.setIfInBounds_toArray, List.set_cons_zero, List.set_cons_succ]))
  | (refine wpReads_any ?_ (by rfl) ?_ ?_; rotate_left; (intro wz; go_simp; try with_reducible rfl); (try simp only [Act.put, List.setIfInBounds_toArray, List.set_cons_zero, List.set_cons_succ])))
 refine wpReads_nil ?_
 go_wp2_with fail
 refine wp_region_drift (fun w' => w'.cell? ⟨b, 0, none⟩ = some (.pointer (some ⟨v.body, 0, none⟩)) ∧ w'.cell? ⟨b, 5, none⟩ = some (.slice (some ⟨v.hand, 0, none⟩) n n)) [0, 1, 2, 3, 4, 5, 6, 7, 9, 10, 11] [] [0, 1, 2, 3, 4, 5, 6, 7] 6 (by kernel_rfl) (by kernel_rfl) rfl ⟨c0, c5⟩ ?_
 intro Q' hQ' hQ2
 simp only [pickOps, List.flatMap_cons, List.flatMap_nil, List.drop_succ_cons, List.drop_zero, List.take_succ_cons, List.take_zero, List.cons_append, List.nil_append, List.append_nil]
 repeat (first
  | (refine wpReads_skip (by rfl) ?_; (try simp only [Act.put, List.setIfInBounds_toArray, List.set_cons_zero, List.set_cons_succ]))
  | (refine wpReads_cons ?_ (by rfl) (by rfl) ?_ ?_; rotate_left; (intro wz hz; (try dsimp only at hz); go_simp; try with_reducible rfl); (try simp only [Act.put, List.setIfInBounds_toArray, List.set_cons_zero, List.set_cons_succ]))
  | (refine wpReads_any ?_ (by rfl) ?_ ?_; rotate_left; (intro wz; go_simp; try with_reducible rfl); (try simp only [Act.put, List.setIfInBounds_toArray, List.set_cons_zero, List.set_cons_succ])))
 refine wpReads_nil ?_
 refine wpAnyT_one (i := 8) (by kernel_rfl) ?_
 simp only [pickOps, List.flatMap_cons, List.flatMap_nil, List.drop_succ_cons, List.drop_zero, List.take_succ_cons, List.take_zero, List.append_nil]
 go_wp2_with fail
 refine HF.out.mono ?_
 rintro e w2 ⟨gv, o2, gs, rfl, T, A2, G2⟩
 obtain ⟨ga, gc, rfl⟩ := G2.1.slice
 obtain ⟨gl, hgl⟩ : ∃ y, (shotP g t x).outs.length = y := ⟨_, rfl⟩
 have HG2 := Lib.hid G2
 rw [hgl]
 have HGL := Lib.hid hgl
 have T0 := (((Turn.refl o (fun x => x = M + 1) w).drewN 2).trans T (fun _ h => h))
 have d0 := T0.cell c0 (by show ¬ o b = M + 1; rw [H.out.blk.2]; omega)
 have d5 := T0.cell c5 (by show ¬ o b = M + 1; rw [H.out.blk.2]; omega)
 have B2 := H.out.blk.turn T0 (by omega)
 have e6 := B2.cell 6 _ rfl
 have e7 := B2.cell 7 _ rfl
 have e8 := B2.cell 8 _ rfl
 have f6 := B2.frozen 6
 have f7 := B2.frozen 7
 have f8 := B2.frozen 8
 have HT0 := Lib.hid T0
 have HA2 := Lib.hid A2
 rw [HER.out]
 clear T A2 G2 T0 c0 c5 c7 c3 B2 hgl
 go_wp2_with fail
 refine ⟨(fun h => by cases h), ?_⟩
 refine wpAnyT_later (r := [9, 10, 11]) (n := 2) hQ2 (by kernel_rfl) ⟨d0, d5⟩ ?_
 simp only [pickOps, List.flatMap_cons, List.flatMap_nil, List.drop_succ_cons, List.drop_zero, List.take_succ_cons, List.take_zero, List.cons_append, List.nil_append, List.append_nil]
 repeat (first
  | (refine wpReads_skip (by rfl) ?_; (try simp only [Act.put, List.setIfInBounds_toArray, List.set_cons_zero, List.set_cons_succ]))
  | (refine wpReads_cons ?_ (by rfl) (by rfl) ?_ ?_; rotate_left; (intro wz hz; (try dsimp only at hz); go_simp; try with_reducible rfl); (try simp only [Act.put, List.setIfInBounds_toArray, List.set_cons_zero, List.set_cons_succ]))
  | (refine wpReads_any ?_ (by rfl) ?_ ?_; rotate_left; (intro wz; go_simp; try with_reducible rfl); (try simp only [Act.put, List.setIfInBounds_toArray, List.set_cons_zero, List.set_cons_succ])))
 refine wpReads_nil ?_
 clear hQ2
 refine wpAnyT_list (ks := [12, 13]) (fun _ _ hx h => ⟨hx.cell h.1, hx.cell h.2⟩) (by kernel_rfl) ?_
 simp only [pickOps, List.flatMap_cons, List.flatMap_nil, List.drop_succ_cons, List.drop_zero, List.take_succ_cons, List.take_zero, List.cons_append, List.nil_append, List.append_nil]
 by_cases hz : er = 0
 ·
  have hei : (er != 0) = false := by rw [hz]; rfl
  have HZ := Lib.hid hz
  clear hz
  obtain ⟨TA4, S4⟩ := H.out.fired HT0.out (S := shotP g t x) (fun a ha => by rw [HFA.out.2.2] at ha; cases ha; exact HA2.out) HG2.out (HFA.out.2.1 (by rw [HER.out]; exact HZ.out))
  rw [HGL.out] at TA4 S4
  have HTA4 := Lib.hid TA4
  have HS4 := Lib.hid S4
  clear TA4 S4
  go_wp2_with fail
  refine (tfinish_any HTA4.out HG.out.2.2.1 (Nat.zero_le _)).mono ?_
  rintro e w5 ⟨o5, v5, rfl, T5, TA5⟩
  have HT5 := Lib.hid T5
  have HTA5 := Lib.hid TA5
  clear T5 TA5
  go_wp2_with fail
  go_ret
  refine ⟨o5, v5, ((HT0.out.mono (D := MineT M) (fun c hc => by rw [hc]; unfold MineT; omega)).trans (HS4.out.mono (mineT_self M)) (fun _ h => h)).trans HT5.out (fun _ h => h), .inr ⟨HER.out.trans HZ.out, rfl, ?_⟩⟩
  rw [← HX'.out, ← HG.out.1]
  exact HTA5.out
 ·
  have hei : (er != 0) = true := by simpa using hz
  have HZ := Lib.hid hz
  clear hz
  go_wp2_with fail
  go_ret
  refine ⟨o2, v, HT0.out.mono (fun c hc => by rw [hc]; unfold MineT; omega), .inl ⟨by rw [HER.out]; exact HZ.out, rfl, H.out.failed HT0.out (fun a ha => ?_)⟩⟩
  rw [HFA.out.2.2] at ha
  cases ha
  have hh := HFA.out.1 (by rw [HER.out]; exact HZ.out)
  have hA := HA2.out
  rw [hh.1, hh.2] at hA
  exact hA
end Go.Proofs.YtaholpfikcdhbaaGreat

/- A task's step, over the rig in memory. -/
namespace Go.Proofs.YtaholpfikcdhbaaGreat
open Go.RowKit
theorem RigAt.stepped {w w2 w' : World} {o o2 o' : Col} {R b : Nat} {g : GGraph} {caps : List Int} {N N' : Nat → Nat} {qs : Ptrs} {r : RunP} {v : RVals} {C : Nat → Prop} {t : Nat} {x' : TaskP} {tv' : TVals} {strs' : Nat → List Int} {rows' : Nat → Value} (h : RigAt w o R b g caps N qs r v) (ht : t < g.actors.length) (T1 : Turn o o2 C w w2) (hC : ∀ k, C k → R + 4000 ≤ k ∧ k < R + 6000) (T2 : Turn o2 o' (MineT (R + 100 + 64 * t)) w2 w')
  (TA : TaskAt w' o' (R + 100 + 64 * t) (v.tb t) g qs t x' tv')
  (hq : ∀ d, d < g.edges.length + g.ins.length → QAt w' o' (R + 4000 + d) (qs d) (capD caps d) (strs' d) (N' d))
  (htp : ∀ d, g.edges.length + g.ins.length ≤ d → d < g.edges.length + g.ins.length + g.outs.length → TapeAt w' o' (R + 4000 + d) (R + 5000 + d) (qs d) (rows' d) (strs' d)) :
  RigAt w' o' R b g caps N' qs ⟨⟨upd r.rig.tasks t x', strs'⟩, r.failed⟩ { v with tv := upd v.tv t tv', rows := rows' } ∧ Turn o o' (MineR R) w w' := by
 obtain ⟨f1, f2, f3, f4⟩ := h.few
 have TT := (T1.mono (D := fun k => (R + 4000 ≤ k ∧ k < R + 6000) ∨ MineT (R + 100 + 64 * t) k) (fun k hk => .inl (hC k hk))).trans (T2.mono (D := fun k => (R + 4000 ≤ k ∧ k < R + 6000) ∨ MineT (R + 100 + 64 * t) k) (fun k hk => .inr hk)) (fun _ h => h)
 have no : ∀ j, j < 100 → ¬ ((R + 4000 ≤ R + j ∧ R + j < R + 6000) ∨ MineT (R + 100 + 64 * t) (R + j)) := fun j hj => by unfold MineT; omega
 refine ⟨⟨h.blk.turn TT (no 0 (by omega)), h.tasks.turn TT (no 1 (by omega)), h.edges.turn TT (no 2 (by omega)), h.inputs.turn TT (no 3 (by omega)), h.tapes.turn TT (no 4 (by omega)), fun u hu => ?_, hq, htp, h.few⟩, TT.mono (fun k hk => ?_)⟩
 ·
  show TaskAt w' o' (R + 100 + 64 * u) (v.tb u) g qs u (upd r.rig.tasks t x' u) (upd v.tv t tv' u)
  by_cases e : u = t
  ·
   subst e
   rw [upd_same, upd_same]
   exact TA
  ·
   rw [upd_other e, upd_other e]
   refine (h.task u hu).turn TT (fun k hk hm => ?_)
   unfold MineT at hm hk
   omega
 ·
  unfold MineR
  rcases hk with hk | hk
  ·
   omega
  ·
   unfold MineT at hk; omega
def StepAt (w : World) (o : Col) (R b : Nat) (g : GGraph) (caps : List Int) (N : Nat → Nat) (qs : Ptrs) (r : RunP) (tb : Nat → Nat) (t : Nat) (e : Ending) (w' : World) : Prop :=
 ∃ o' v', Turn o o' (MineR R) w w' ∧ v'.tb = tb ∧ ((stepP g caps r.rig t = .fails ∧ e = .returned (.bool false) ∧ RigAt w' o' R b g caps (stepN g N) qs r v') ∨ ∃ s', stepP g caps r.rig t = .goes s' ∧ e = .returned (.bool true) ∧ RigAt w' o' R b g caps (stepN g N) qs ⟨s', r.failed⟩ v')
theorem tstep_give {w : World} {o : Col} {R b : Nat} {g : GGraph} {caps : List Int} {N : Nat → Nat} {s : Nat} {qs : Ptrs} {r : RunP} {v : RVals} (h : RigAt w o R b g caps N qs r v) (hL : Linked g) (hcl : caps.length = g.edges.length) (hK : ROk g s r.rig) (hs : s < 4611686018427387904) (hN : ∀ d, N d < 27000000000000) (hln : ∀ d, g.edges.length + g.ins.length ≤ d → (r.rig.strs d).length < 27000000000000) {t : Nat} (ht : t < g.actors.length) (hr : isReady g caps r.rig t = true) (hg : (r.rig.tasks t).gives = true) :
  Calls Tryz.prog 40 #[ptrV (v.tb t)] w (StepAt w o R b g caps N qs r v.tb t) := by
 have hT := h.task t ht
 have hO := hK.task t ht
 obtain ⟨f1, f2, f3, f4⟩ := h.few
 have hp := (hO.give hg).1
 rw [ready_gives ht hg] at hr
 have hnf : fullP caps r.rig (toP g t (r.rig.tasks t).port) = false := by simpa using hr
 have hstep : stepP g caps r.rig t = .goes ⟨upd r.rig.tasks t (gaveP (ratesI g t).length (ratesO g t).length (r.rig.tasks t)), upd r.rig.strs (toP g t (r.rig.tasks t).port) (r.rig.strs (toP g t (r.rig.tasks t).port) ++ [nextP (r.rig.tasks t)])⟩ := by
  unfold stepP
  rw [if_neg (by omega), if_pos hg, if_neg (by simp [hnf])]
 have hout := hL.out t _ ht hp
 obtain ⟨d, hd⟩ : ∃ d, toP g t (r.rig.tasks t).port = d := ⟨_, rfl⟩
 rw [hd] at hnf hstep hout
 have hmt : ∀ k, R + 4000 ≤ k → ¬ MineT (R + 100 + 64 * t) k := fun k hk hm => by unfold MineT at hm; omega
 have fin : ∀ {C : Nat → Prop} {F : Col → World → Prop}, (∀ k, C k → k = R + 4000 + d ∨ k = R + 5000 + d) → d < g.edges.length + g.ins.length + g.outs.length →
   (∀ o2 w2 o' w', F o2 w2 → Turn o2 o' (MineT (R + 100 + 64 * t)) w2 w' → ∃ rw', (d < g.edges.length + g.ins.length → QAt w' o' (R + 4000 + d) (qs d) (capD caps d) (r.rig.strs d ++ [nextP (r.rig.tasks t)]) (stepN g N d)) ∧ (g.edges.length + g.ins.length ≤ d → TapeAt w' o' (R + 4000 + d) (R + 5000 + d) (qs d) rw' (r.rig.strs d ++ [nextP (r.rig.tasks t)]))) →
   ∀ e w', StepT w o C F (R + 100 + 64 * t) (v.tb t) g qs t (gaveP (ratesI g t).length (ratesO g t).length (r.rig.tasks t)) e w' → StepAt w o R b g caps N qs r v.tb t e w' := by
  intro C F hC hdl hF e w' ⟨o2, w2, o', v', he, T1, hf, T2, TA⟩
  obtain ⟨rw', q1, q2⟩ := hF o2 w2 o' w' hf T2
  obtain ⟨K, TT⟩ := h.stepped (strs' := upd r.rig.strs d (r.rig.strs d ++ [nextP (r.rig.tasks t)])) (rows' := upd v.rows d rw') (N' := stepN g N) ht T1 (fun k hk => by rcases hC k hk with h | h <;> omega) T2 TA (fun u hu => by
   by_cases e : u = d
   ·
    subst e
    rw [upd_same]
    exact q1 hu
   ·
    rw [upd_other e]
    exact (((h.queue u hu).turn T1 (fun hk => by rcases hC _ hk with h | h <;> omega)).turn T2 (hmt _ (by omega))).mono (stepN_le _ _ _)) (fun u hu hu2 => by
   by_cases e : u = d
   ·
    subst e
    rw [upd_same, upd_same]
    exact q2 hu
   ·
    rw [upd_other e, upd_other e]
    obtain ⟨k1, k2⟩ := h.tape u hu hu2
    exact ⟨(k1.turn T1 (fun hk => by rcases hC _ hk with h | h <;> omega)).turn T2 (hmt _ (by omega)), (k2.turn T1 (fun hk => by rcases hC _ hk with h | h <;> omega)).turn T2 (hmt _ (by omega))⟩)
  exact ⟨o', { v with tv := upd v.tv t v', rows := upd v.rows d rw' }, TT, rfl, .inr ⟨_, hstep, he, K⟩⟩
 by_cases hed : d < g.edges.length
 ·
  have hq := (h.queue d (by omega))
  have hcap : ((r.rig.strs d).length : Int) < capD caps d := by
   rw [full_edge (by omega)] at hnf
   have := of_decide_eq_false hnf
   omega
  refine (tstep_gives (C := fun x => x = R + 4000 + d) (F := fun o' w' => QAt w' o' (R + 4000 + d) (qs d) (capD caps d) (r.rig.strs d ++ [nextP (r.rig.tasks t)]) (N d + 1)) (f := 59) (ty := 112) (cv := .agg #[.pointer (some ⟨qs d, 0, none⟩)]) hT hg hO hs (disp_cgive _) (fun args w => Tryz.call59 args w) (by unfold dstV; rw [hd, if_pos hed]) (fun k hk => hmt k (by omega)) ?_).mono (fin (fun k hk => .inl hk) (by omega) (fun o2 w2 o' w' hf T2 => ⟨.slice none 0 0, fun _ => by rw [stepN_edge hed]; exact hf.turn T2 (hmt _ (by omega)), fun hh => by omega⟩))
  refine (cgive_any _ (hq.turn ((Turn.refl o (fun _ => False) w).drew) (fun h => h)) (hN _) hcap).mono ?_
  rintro e w' ⟨o', rfl, T, Q⟩
  exact ⟨o', rfl, T, Q⟩
 ·
  have hr2 : g.edges.length + g.ins.length ≤ d ∧ d < g.edges.length + g.ins.length + g.outs.length := by
   rcases hout with h | h
   ·
    exact absurd h hed
   ·
    exact h
  have htape := h.tape d hr2.1 hr2.2
  refine (tstep_gives (C := fun x => x = R + 4000 + d ∨ x = R + 5000 + d) (F := fun o' w' => ∃ rw', TapeAt w' o' (R + 4000 + d) (R + 5000 + d) (qs d) rw' (r.rig.strs d ++ [nextP (r.rig.tasks t)])) (f := 146) (ty := 119) (cv := .pointer (some ⟨qs d, 0, none⟩)) hT hg hO hs (disp_tgive _) (fun args w => Tryz.call146 args w) (by unfold dstV; rw [hd, if_neg hed]) (fun k hk => hmt k (by omega)) ?_).mono (fin (fun k hk => hk) hr2.2 (fun o2 w2 o' w' hf T2 => by
   obtain ⟨rw', k1, k2⟩ := hf
   exact ⟨rw', fun hh => by omega, fun _ => ⟨k1.turn T2 (hmt _ (by omega)), k2.turn T2 (hmt _ (by omega))⟩⟩))
  have T0 := (Turn.refl o (fun _ => False) w).drew
  refine (tgive_any _ (⟨htape.1.turn T0 (fun h => h), htape.2.turn T0 (fun h => h)⟩ : TapeAt w.drew o (R + 4000 + d) (R + 5000 + d) (qs d) (v.rows d) (r.rig.strs d)) (by omega) (hln d hr2.1)).mono ?_
  rintro e w' ⟨o', rw', rfl, T, Q⟩
  exact ⟨o', rfl, T, rw', Q⟩
end Go.Proofs.YtaholpfikcdhbaaGreat

/- A task's step, over the rig in memory: takes, fires; whichever. -/
namespace Go.Proofs.YtaholpfikcdhbaaGreat
open Go.RowKit
theorem tstep_take {w : World} {o : Col} {R b : Nat} {g : GGraph} {caps : List Int} {N : Nat → Nat} {s : Nat} {qs : Ptrs} {r : RunP} {v : RVals} (h : RigAt w o R b g caps N qs r v) (hL : Linked g) (hga : ActsOk g) (hK : ROk g s r.rig) (hN : ∀ d, N d < 27000000000000) {t : Nat} (ht : t < g.actors.length) (hr : isReady g caps r.rig t = true) (hg : (r.rig.tasks t).gives = false) (hp : (r.rig.tasks t).port < (ratesI g t).length) :
  Calls Tryz.prog 40 #[ptrV (v.tb t)] w (StepAt w o R b g caps N qs r v.tb t) := by
 have hT := h.task t ht
 have hO := hK.task t ht
 obtain ⟨f1, f2, f3, f4⟩ := h.few
 rw [ready_takes ht hg hp] at hr
 have hdl := hL.inn t _ ht hp
 obtain ⟨d, hd⟩ : ∃ d, fromP g t (r.rig.tasks t).port = d := ⟨_, rfl⟩
 rw [hd] at hr hdl
 obtain ⟨X, l, hXl⟩ : ∃ X l, r.rig.strs d = X :: l := by
  cases hh : r.rig.strs d with
  | nil => rw [hh] at hr; simp at hr
  | cons X l => exact ⟨X, l, rfl⟩
 have hstep : stepP g caps r.rig t = .goes ⟨upd r.rig.tasks t (tookP (rI g t (r.rig.tasks t).port) (r.rig.tasks t) X), upd r.rig.strs d l⟩ := by
  unfold stepP
  rw [if_neg (by omega), if_neg (by simp [hg]), if_pos hp, hd, hXl]
  rfl
 have hmt : ∀ k, R + 4000 ≤ k → ¬ MineT (R + 100 + 64 * t) k := fun k hk hm => by unfold MineT at hm; omega
 have hq := h.queue d hdl
 rw [hXl] at hq
 refine (tstep_takes (C := fun x => x = R + 4000 + d) (F := fun o' w' => QAt w' o' (R + 4000 + d) (qs d) (capD caps d) l (N d)) (X := X) hT hg hO hga hp (fun k hk => hmt k (by omega)) (fun m => ?_)).mono ?_
 ·
  rw [hd]
  refine (ctake_any (hq.turn ((Turn.refl o (fun _ => False) w).drewN m) (fun h => h)) (by have := hN d; omega)).mono ?_
  rintro e w' ⟨o', rfl, T, Q⟩
  exact ⟨o', rfl, T, Q⟩
 ·
  rintro e w' ⟨o2, w2, o', v', he, T1, hf, T2, TA⟩
  obtain ⟨K, TT⟩ := h.stepped (strs' := upd r.rig.strs d l) (rows' := v.rows) (N' := stepN g N) ht T1 (fun k hk => by omega) T2 TA (fun u hu => by
   by_cases e : u = d
   ·
    subst e
    rw [upd_same]
    exact (hf.turn T2 (hmt _ (by omega))).mono (stepN_le _ _ _)
   ·
    rw [upd_other e]
    exact (((h.queue u hu).turn T1 (fun hk => by omega)).turn T2 (hmt _ (by omega))).mono (stepN_le _ _ _)) (fun u hu hu2 => by
   have e : u ≠ d := by omega
   rw [upd_other e]
   obtain ⟨k1, k2⟩ := h.tape u hu hu2
   exact ⟨(k1.turn T1 (fun hk => by omega)).turn T2 (hmt _ (by omega)), (k2.turn T1 (fun hk => by omega)).turn T2 (hmt _ (by omega))⟩)
  exact ⟨o', { v with tv := upd v.tv t v', rows := v.rows }, TT, rfl, .inr ⟨_, hstep, he, K⟩⟩
theorem upd_self {α : Type} (f : Nat → α) (i : Nat) : upd f i (f i) = f := by
 funext j
 unfold upd
 split
 ·
  rename_i h; rw [h]
 ·
  rfl
theorem tstep_fire {w : World} {o : Col} {R b : Nat} {g : GGraph} {caps : List Int} {N : Nat → Nat} {s : Nat} {qs : Ptrs} {r : RunP} {v : RVals} (h : RigAt w o R b g caps N qs r v) (hga : ActsOk g) (hK : ROk g s r.rig) (hs : s < 4611686018427387904) {t : Nat} (ht : t < g.actors.length) (hg : (r.rig.tasks t).gives = false) (hp : ¬ (r.rig.tasks t).port < (ratesI g t).length) :
  Calls Tryz.prog 40 #[ptrV (v.tb t)] w (StepAt w o R b g caps N qs r v.tb t) := by
 have hT := h.task t ht
 have hO := hK.task t ht
 obtain ⟨f1, f2, f3, f4⟩ := h.few
 have hmt : ∀ k, R + 4000 ≤ k → ¬ MineT (R + 100 + 64 * t) k := fun k hk hm => by unfold MineT at hm; omega
 refine (tstep_fires hT hg hO hga ht hs hp).mono ?_
 rintro e w' ⟨o', v', T2, hh⟩
 have fin : ∀ x', TaskAt w' o' (R + 100 + 64 * t) (v.tb t) g qs t x' v' → RigAt w' o' R b g caps (stepN g N) qs ⟨⟨upd r.rig.tasks t x', r.rig.strs⟩, r.failed⟩ { v with tv := upd v.tv t v', rows := v.rows } ∧ Turn o o' (MineR R) w w' := fun x' TA =>
  h.stepped (C := fun _ => False) (strs' := r.rig.strs) (rows' := v.rows) (N' := stepN g N) ht (Turn.refl _ _ _) (fun k hk => hk.elim) T2 TA (fun u hu => ((h.queue u hu).turn T2 (hmt _ (by omega))).mono (stepN_le _ _ _)) (fun u hu hu2 => by
   obtain ⟨k1, k2⟩ := h.tape u hu hu2
   exact ⟨k1.turn T2 (hmt _ (by omega)), k2.turn T2 (hmt _ (by omega))⟩)
 rcases hh with ⟨he, hv, TA⟩ | ⟨he, hv, TA⟩
 ·
  obtain ⟨K, TT⟩ := fin _ TA
  rw [upd_self] at K
  refine ⟨o', { v with tv := upd v.tv t v', rows := v.rows }, TT, rfl, .inl ⟨?_, hv, K⟩⟩
  exact step_fails.2 ⟨ht, hg, hp, he⟩
 ·
  obtain ⟨K, TT⟩ := fin _ TA
  refine ⟨o', { v with tv := upd v.tv t v', rows := v.rows }, TT, rfl, .inr ⟨_, ?_, hv, K⟩⟩
  unfold stepP
  rw [if_neg (by omega), if_neg (by simp [hg]), if_neg hp, if_neg (by simp [he])]
theorem tstep_any {w : World} {o : Col} {R b : Nat} {g : GGraph} {caps : List Int} {N : Nat → Nat} {s : Nat} {qs : Ptrs} {r : RunP} {v : RVals} (h : RigAt w o R b g caps N qs r v) (hL : Linked g) (hga : ActsOk g) (hcl : caps.length = g.edges.length) (hK : ROk g s r.rig) (hs : s < 4611686018427387904) (hN : ∀ d, N d < 27000000000000) (hln : ∀ d, g.edges.length + g.ins.length ≤ d → (r.rig.strs d).length < 27000000000000) {t : Nat} (ht : t < g.actors.length) (hr : isReady g caps r.rig t = true) :
  Calls Tryz.prog 40 #[ptrV (v.tb t)] w (StepAt w o R b g caps N qs r v.tb t) := by
 by_cases hg : (r.rig.tasks t).gives = true
 ·
  exact tstep_give h hL hcl hK hs hN hln ht hr hg
 ·
  have hg : (r.rig.tasks t).gives = false := by simpa using hg
  by_cases hp : (r.rig.tasks t).port < (ratesI g t).length
  ·
   exact tstep_take h hL hga hK hN ht hr hg hp
  ·
   exact tstep_fire h hga hK hs ht hg hp
end Go.Proofs.YtaholpfikcdhbaaGreat

/- Rig.Step. -/
namespace Go.Proofs.YtaholpfikcdhbaaGreat
open Go.RowKit
theorem RigAt.mono {w : World} {o : Col} {R b : Nat} {g : GGraph} {caps : List Int} {N N' : Nat → Nat} {qs : Ptrs} {r : RunP} {v : RVals} (h : RigAt w o R b g caps N qs r v) (hN : ∀ d, N d ≤ N' d) : RigAt w o R b g caps N' qs r v := { h with queue := fun d hd => (h.queue d hd).mono (hN d) }
theorem RigAt.below {w w' : World} {o : Col} {R b : Nat} {g : GGraph} {caps : List Int} {N : Nat → Nat} {qs : Ptrs} {r : RunP} {v : RVals} (h : RigAt w o R b g caps N qs r v) (hb : Below w.heap.size w w') : RigAt w' (ext o w.heap.size 0) R b g caps N qs r v := h.turn (Turn.of_below o 0 hb) (fun _ h => h.elim)
theorem RigAt.setFail {w : World} {o : Col} {R b : Nat} {g : GGraph} {caps : List Int} {N : Nat → Nat} {qs : Ptrs} {r : RunP} {v : RVals} (h : RigAt w o R b g caps N qs r v) (t : Nat) : RigAt (w.setCell ⟨b, 4, none⟩ (.int .i64 (t : Int))) o R b g caps N qs ⟨r.rig, some t⟩ v ∧ Turn o o (MineR R) w (w.setCell ⟨b, 4, none⟩ (.int .i64 (t : Int))) := by
 obtain ⟨B, S⟩ := h.blk.set 4 (.int .i64 (t : Int))
 obtain ⟨f1, f2, f3, f4⟩ := h.few
 refine ⟨⟨?_, h.tasks.turn S (by omega), h.edges.turn S (by omega), h.inputs.turn S (by omega), h.tapes.turn S (by omega), fun u hu => (h.task u hu).turn S (fun k hk hm => by unfold MineT at hm; omega), fun d hd => (h.queue d hd).turn S (by omega), fun d hd hd2 => ⟨(h.tape d hd hd2).1.turn S (by omega), (h.tape d hd hd2).2.turn S (by omega)⟩, h.few⟩, S.mono (fun k hk => by rw [hk]; unfold MineR; omega)⟩
 have hcs : (rigV r v).toArray.setIfInBounds 4 (.int .i64 (t : Int)) = (rigV ⟨r.rig, some t⟩ v).toArray := by unfold rigV; simp
 rw [hcs] at B
 exact B
def stepI (g : GGraph) (caps : List Int) (r : RunP) (k : Int) : RunP × Bool := if k < 0 then (r, false) else stepR g caps r k.toNat
def Stepped (w : World) (o : Col) (R b : Nat) (g : GGraph) (caps : List Int) (N : Nat → Nat) (qs : Ptrs) (v : RVals) (x : RunP × Bool) (e : Ending) (w' : World) : Prop :=
 ∃ o' v', e = .returned (.bool x.2) ∧ Turn o o' (MineR R) w w' ∧ v'.tb = v.tb ∧ RigAt w' o' R b g caps (stepN g N) qs x.1 v'
theorem step_idle {g : GGraph} {caps : List Int} {r : RunP} {t : Nat} (h : g.actors.length ≤ t ∨ isReady g caps r.rig t = false) : stepR g caps r t = (r, false) := by
 have : stepP g caps r.rig t = .waits := by
  rcases h with h | h
  ·
   unfold stepP; rw [if_pos h]
  ·
   unfold isReady at h
   cases hs : stepP g caps r.rig t with
   | waits => rfl
   | fails => rw [hs] at h; cases h
   | goes s => rw [hs] at h; cases h
 unfold stepR
 rw [this]
 cases r.failed <;> rfl
set_option maxRecDepth 100000 in
set_option maxHeartbeats 2000000 in
theorem dStep_any {w : World} {o : Col} {R b : Nat} {g : GGraph} {caps : List Int} {N : Nat → Nat} {s : Nat} {qs : Ptrs} {r : RunP} {v : RVals} (k : Int) (h : RigAt w o R b g caps N qs r v) (hL : Linked g) (hga : ActsOk g) (hcl : caps.length = g.edges.length) (hK : ROk g s r.rig) (hs : s < 4611686018427387904) (hN : ∀ d, N d < 27000000000000) (hln : ∀ d, g.edges.length + g.ins.length ≤ d → (r.rig.strs d).length < 27000000000000) :
  Calls Tryz.prog 18 #[.pointer (some ⟨b, 0, none⟩), .int .i64 k] w (Stepped w o R b g caps N qs v (stepI g caps r k)) := by
 have hb := h.blk
 unfold rigV at hb
 have c0 := hb.cell 0 _ rfl
 have c4 := hb.cell 4 _ rfl
 change w.cell? _ = some v.tasks at c0
 have H := Lib.hid h
 have hself : Stepped w o R b g caps N qs v (r, false) (.returned (.bool false)) w := ⟨o, v, rfl, Turn.refl _ _ _, rfl, h.mono (stepN_le g N)⟩
 obtain ⟨X, hX⟩ : ∃ x, stepI g caps r k = x := ⟨_, rfl⟩
 rw [hX]
 have HSF := Lib.hid hself
 obtain ⟨ta, tc, e1⟩ := h.tasks.slice
 rw [List.length_map, List.length_range] at e1
 rw [e1] at c0
 obtain ⟨n, hn⟩ : ∃ n, g.actors.length = n := ⟨_, rfl⟩
 rw [hn] at c0
 clear hself hb
 cases hf : r.failed with
 | some t =>
  rw [hf] at c4
  change w.cell? _ = some (.int .i64 (t : Int)) at c4
  have ht0 : (0 : Int) ≤ (t : Int) := by omega
  have hXe : X = (r, false) := by
   rw [← hX]
   unfold stepI stepR
   rw [hf]
   split <;> rfl
  rw [hXe]
  clear h hX hXe e1 hn hL hga hcl hK hs hN hln hf
  go_enter Tryz.func18, Tryz.ntmps18
  go_wp2_with fail
  go_ret
  exact HSF.out
 | none =>
  rw [hf] at c4
  change w.cell? _ = some (.int .i64 (-1)) at c4
  have hm1 : ¬ (0 : Int) ≤ (-1 : Int) := by omega
  by_cases hk0 : k < 0
  ·
   have hXe : X = (r, false) := by
    rw [← hX]
    unfold stepI
    rw [if_pos hk0]
   rw [hXe]
   clear h hX hXe e1 hn hL hga hcl hK hs hN hln hf
   go_enter Tryz.func18, Tryz.ntmps18
   go_wp2_with fail
   go_ret
   exact HSF.out
  ·
   obtain ⟨t, rfl⟩ : ∃ t : Nat, k = t := ⟨k.toNat, by omega⟩
   by_cases htn : n ≤ t
   ·
    have hXe : X = (r, false) := by
     rw [← hX]
     unfold stepI
     rw [if_neg (by omega)]
     exact step_idle (.inl (by simp; omega))
    rw [hXe]
    have hti : (n : Int) ≤ (t : Int) := by omega
    clear h hX hXe e1 hn hL hga hcl hK hs hN hln hf htn
    go_enter Tryz.func18, Tryz.ntmps18
    go_wp2_with fail
    go_ret
    exact HSF.out
   ·
    have htn : t < n := by omega
    have ht : t < g.actors.length := by omega
    have hti : ¬ (n : Int) ≤ (t : Int) := by omega
    have hti2 : (t : Int) < (n : Int) := by omega
    obtain ⟨gt, ft, ct, u1, u2, u3, ucol⟩ := vals_at2 h.tasks (k := t) (by simpa using ht)
    simp only [List.length_map, List.length_range, List.getElem_map, List.getElem_range] at u1 u2 u3
    rw [e1, hn] at u1
    simp only [Value.slice.injEq] at u1
    obtain ⟨rfl, -, rfl⟩ := u1
    rw [hn] at u2
    have hcti : (n : Int) ≤ tc := by omega
    obtain ⟨tb, htb⟩ : ∃ x, v.tb t = x := ⟨_, rfl⟩
    rw [htb] at u3
    change w.cell? _ = some (.pointer (some ⟨tb, 0, none⟩)) at u3
    have hrd := tready_any h hL hcl hK (fun d => Nat.le_of_lt (hN d)) ht
    rw [htb] at hrd
    obtain ⟨z, hz⟩ : ∃ z, isReady g caps r.rig t = z := ⟨_, rfl⟩
    rw [hz] at hrd
    change Calls Tryz.prog 39 #[.pointer (some ⟨tb, 0, none⟩)] w _ at hrd
    have HRD := Lib.hid hrd
    have hstp : ∀ w1, Below w.heap.size w w1 → z = true → Calls Tryz.prog 40 #[.pointer (some ⟨tb, 0, none⟩)] w1 (StepAt w1 (ext o w.heap.size 0) R b g caps N qs r v.tb t) := fun w1 hb1 hz1 => by
     have := tstep_any (h.below hb1) hL hga hcl hK hs hN hln ht (by rw [hz]; exact hz1)
     rw [htb] at this
     exact this
    have HST := Lib.hid hstp
    have HX := Lib.hid hX
    have HZ := Lib.hid hz
    have HFA := Lib.hid hf
    have HTN := Lib.hid ht
    clear h hX e1 hn hL hga hcl hK hs hN hln hf htn ht hrd hstp hz htb ucol u2
    go_enter Tryz.func18, Tryz.ntmps18
    go_wp2_with fail
    refine HRD.out.mono ?_
    rintro e w1 ⟨rfl, hb1⟩
    have c0 := cell_later hb1 c0
    have u3 := cell_later hb1 u3
    have HB1 := Lib.hid hb1
    clear hb1
    cases z with
    | false =>
     go_wp2_with fail
     go_ret
     have hXe : X = (r, false) := by
      rw [← HX.out]
      unfold stepI
      rw [if_neg (by omega)]
      exact step_idle (.inr (by simpa using HZ.out))
     rw [hXe]
     exact ⟨_, v, rfl, (Turn.of_below o 0 HB1.out).mono (fun _ h => h.elim), rfl, (H.out.below HB1.out).mono (stepN_le g N)⟩
    | true =>
     go_wp2_with fail
     refine (HST.out _ HB1.out (by simp)).mono ?_
     rintro e w2 ⟨o2, v2, T2, ht2, hh⟩
     have HT2 := Lib.hid (((Turn.of_below o 0 HB1.out).mono (D := MineR R) (fun _ h => h.elim)).trans T2 (fun _ h => h))
     have HTB2 := Lib.hid ht2
     clear T2 ht2
     rcases hh with ⟨q1, rfl, q2⟩ | ⟨s', q1, rfl, q2⟩
     ·
      have hXe : X = (⟨r.rig, some t⟩, true) := by
       rw [← HX.out]
       unfold stepI stepR
       rw [if_neg (by omega), HFA.out]
       simp only [Int.toNat_natCast]
       rw [q1]
      obtain ⟨K, TF⟩ := q2.setFail t
      have f4 := q2.blk.frozen 4
      have d4 := q2.blk.cell 4 _ rfl
      have HK := Lib.hid K
      have HTF := Lib.hid TF
      have HXE := Lib.hid hXe
      clear K TF q1 q2 hXe
      go_wp2_with fail
      go_ret
      rw [HXE.out]
      exact ⟨o2, v2, rfl, HT2.out.trans HTF.out (fun _ h => h), HTB2.out, HK.out⟩
     ·
      have hXe : X = (⟨s', none⟩, true) := by
       rw [← HX.out]
       unfold stepI stepR
       rw [if_neg (by omega), HFA.out]
       simp only [Int.toNat_natCast]
       rw [q1]
      rw [HFA.out] at q2
      have HK := Lib.hid q2
      have HXE := Lib.hid hXe
      clear q1 q2 hXe
      go_wp2_with fail
      go_ret
      rw [HXE.out]
      exact ⟨o2, v2, rfl, HT2.out, HTB2.out, HK.out⟩
end Go.Proofs.YtaholpfikcdhbaaGreat

/- Rig.Ready. -/
namespace Go.Proofs.YtaholpfikcdhbaaGreat
open Go.RowKit
def DInts (w : World) (l : List Int) (e : Ending) (w' : World) : Prop := ∃ v, e = .returned v ∧ w'.ownsRow w.heap.size 3 1 v l.length (ivs l) ∧ Below w.heap.size w w'
theorem news_at {w : World} {n : Nat} (hn : n = w.heap.size) (l : List Value) (t : TypeId) : ∀ ad, some (⟨n, 0, none⟩ : Addr) = some ad → ∀ j u, l[j]? = some u → (w.alloc (.cells l.toArray t)).cell? (ad.add j) = some u := by
 subst hn
 exact news_alloc w l t
def rdyL (p : Nat → Bool) (j : Nat) : List Int := ((List.range j).filter p).map fun k : Nat => (k : Int)
theorem rdyL_yes {p : Nat → Bool} {j : Nat} (h : p j = true) : rdyL p (j + 1) = rdyL p j ++ [(j : Int)] := by
 unfold rdyL
 rw [List.range_succ, List.filter_append, List.map_append]
 simp [h]
theorem rdyL_no {p : Nat → Bool} {j : Nat} (h : p j = false) : rdyL p (j + 1) = rdyL p j := by
 unfold rdyL
 rw [List.range_succ, List.filter_append, List.map_append]
 simp [h]
theorem rdyL_len (p : Nat → Bool) (j : Nat) : (rdyL p j).length ≤ j := by
 unfold rdyL
 rw [List.length_map]
 exact Nat.le_trans (List.length_filter_le _ _) (by simp)
def rdyI (g : GGraph) (caps : List Int) (r : RunP) : List Int := (readyL g caps r).map fun k : Nat => (k : Int)
set_option maxRecDepth 100000 in
set_option maxHeartbeats 2000000 in
theorem dReady_any {w : World} {o : Col} {R b : Nat} {g : GGraph} {caps : List Int} {N : Nat → Nat} {s : Nat} {qs : Ptrs} {r : RunP} {v : RVals} (h : RigAt w o R b g caps N qs r v) (hL : Linked g) (hcl : caps.length = g.edges.length) (hK : ROk g s r.rig) (hN : ∀ d, N d ≤ 27000000000000) :
  Calls Tryz.prog 17 #[.pointer (some ⟨b, 0, none⟩)] w (DInts w (rdyI g caps r)) := by
 have hb := h.blk
 unfold rigV at hb
 have c0 := hb.cell 0 _ rfl
 have c4 := hb.cell 4 _ rfl
 change w.cell? _ = some v.tasks at c0
 obtain ⟨ta, tc, e1⟩ := h.tasks.slice
 rw [List.length_map, List.length_range] at e1
 rw [e1] at c0
 obtain ⟨n, hn⟩ : ∃ n, g.actors.length = n := ⟨_, rfl⟩
 rw [hn] at c0
 cases hf : r.failed with
 | some t =>
  rw [hf] at c4
  change w.cell? _ = some (.int .i64 (t : Int)) at c4
  have ht0 : (0 : Int) ≤ (t : Int) := by omega
  have hXe : rdyI g caps r = [] := by unfold rdyI readyL; rw [hf]; rfl
  rw [hXe]
  clear h hXe e1 hn hL hcl hK hN hf hb
  go_enter Tryz.func17, Tryz.ntmps17
  go_wp2_with fail
  go_ret
  exact ⟨_, rfl, World.ownsRow_nil w w.heap.size 3 1, Below.refl _ _⟩
 | none =>
  rw [hf] at c4
  change w.cell? _ = some (.int .i64 (-1)) at c4
  have hm1 : ¬ (0 : Int) ≤ (-1 : Int) := by omega
  have hn32 : n ≤ 32 := by rw [← hn]; exact h.few.1
  obtain ⟨i0, hi, hz0, hz1, hz2⟩ := info_parts info_int
  have HI := Lib.hid hi
  have hXe : rdyI g caps r = rdyL (isReady g caps r.rig) n := by unfold rdyI readyL rdyL; rw [hf, hn]
  have HXE := Lib.hid hXe
  have HN := Lib.hid hn
  have H := Lib.hid h
  have HE := Lib.hid e1
  have hrd : ∀ t, t < n → ∀ w1, Below w.heap.size w w1 → Calls Tryz.prog 39 #[ptrV (v.tb t)] w1 (Tells (.bool (isReady g caps r.rig t)) w1) := fun t ht w1 hb1 => tready_any (h.below hb1) hL hcl hK hN (by omega)
  have HRD := Lib.hid hrd
  obtain ⟨p, hp⟩ : ∃ p, isReady g caps r.rig = p := ⟨_, rfl⟩
  have HP := Lib.hid hp
  clear h hXe e1 hn hL hcl hK hN hf hb hi hrd hp
  go_enter Tryz.func17, Tryz.ntmps17
  go_wp2_with fail
  go_loopw [3, 20] (fun v i wl => ∃ (j : Nat), j ≤ n ∧ i = .int .i64 j ∧ Below w.heap.size w wl ∧ wl.ownsRow w.heap.size 3 1 v (rdyL p j).length (ivs (rdyL p j))) (fun _ i _ => n - (intOf i).toNat)
  case atStart => exact ⟨0, Nat.zero_le _, rfl, Below.refl _ _, World.ownsRow_nil w w.heap.size 3 1⟩
  case round =>
   obtain ⟨j, hj, rfl, hbl, hO⟩ := hrel
   obtain ⟨sa, sc, rfl⟩ := owns_slice hO
   have hlen := rdyL_len p j
   obtain ⟨L, hLe⟩ : ∃ L, (rdyL p j).length = L := ⟨_, rfl⟩
   rw [hLe] at hO hlen ⊢
   have HLE := Lib.hid hLe
   clear hLe
   by_cases hlt : j < n
   ·
    have hlti : (j : Int) < n := by omega
    have hjg : j < g.actors.length := by have := HN.out; omega
    obtain ⟨gt, ft, ct, u1, u2, u3, ucol⟩ := vals_at2 H.out.tasks (k := j) (by simpa using hjg)
    simp only [List.length_map, List.length_range, List.getElem_map, List.getElem_range] at u1 u2 u3
    rw [HE.out, HN.out] at u1
    simp only [Value.slice.injEq] at u1
    obtain ⟨rfl, -, rfl⟩ := u1
    rw [HN.out] at u2
    have hcti : (n : Int) ≤ tc := by omega
    have d3 := cell_later hbl u3
    have hrd := HRD.out j hlt _ hbl
    rw [HP.out] at hrd
    obtain ⟨z, hz⟩ : ∃ z, p j = z := ⟨_, rfl⟩
    rw [hz] at hrd
    have HZ := Lib.hid hz
    have HR1 := Lib.hid hrd
    have HB := Lib.hid hbl
    have HO := Lib.hid hO
    clear hrd hz hbl hO u3 ucol u2
    unfold ptrV at d3
    go_wp2_with fail
    refine HR1.out.mono ?_
    rintro e w5 ⟨rfl, hb5⟩
    have HB5 := Lib.hid (HB.out.trans (hb5.mono HB.out.size))
    have hO5 := owns_kept HO.out (Mods.of_below hb5 (fun _ => False)) (fun _ _ h => h)
    have HO := Lib.hid hO5
    clear hb5 hO5 d3
    cases z with
    | true =>
     have hgs : rdyL p (j + 1) = rdyL p j ++ [(j : Int)] := rdyL_yes HZ.out
     have HGS := Lib.hid hgs
     clear hgs
     go_wp2_with (at_builtin; refine stop_here ?_)
     refine go_on ?_
     refine wpList_app rfl _ _ 27 rfl w.heap.size 3 i0 _ 1 8 Tryz.underlying27 HI.out hz0 hz1 hz2 rfl (.slice sa L sc) L _ rfl (HO.out.alloc _) (some ⟨w5.heap.size, 0, none⟩) 1 1 [.int .i64 (j : Int)] rfl rfl (fun h => by cases h) (news_at (w := w5) (n := w5.heap.size) rfl [.int .i64 (j : Int)] 3) (by simp [Value.oneCell']) (by unfold maxLen; omega) (grow_ok (by omega)) (by have := HB5.out.size; simp; omega) ?_
     intro v7 w7 k1 k20 _ _
     have hb7 := HB5.out.trans (below_app HO.out k20 HB5.out.size)
     have K1 := Lib.hid k1
     clear k1 k20
     go_wp2
     go_roundw
     case rel => exact ⟨j + 1, hlt, by go_num, hb7, by rw [HGS.out, List.length_append, HLE.out, show ivs (rdyL p j ++ [(j : Int)]) = ivs (rdyL p j) ++ [.int .i64 (j : Int)] by simp [ivs]]; exact K1.out⟩
     case measure => simp [intOf]; omega
    | false =>
     have hgs : rdyL p (j + 1) = rdyL p j := rdyL_no HZ.out
     have HGS := Lib.hid hgs
     clear hgs
     go_wp2
     go_roundw
     case rel => exact ⟨j + 1, hlt, by go_num, HB5.out, by rw [HGS.out, HLE.out]; exact HO.out⟩
     case measure => simp [intOf]; omega
   ·
    obtain rfl : j = n := by omega
    have HO := Lib.hid hO
    have HB := Lib.hid hbl
    clear hO hbl
    go_wp2
    go_ret
    refine ⟨_, rfl, ?_, HB.out⟩
    rw [HXE.out, HP.out, HLE.out]
    exact HO.out
end Go.Proofs.YtaholpfikcdhbaaGreat

/- Rig.Halt, Rig.Failed. -/
namespace Go.Proofs.YtaholpfikcdhbaaGreat
open Go.RowKit
def failI (r : RunP) : Int := match r.failed with | some t => (t : Int) | none => -1
def haltI (g : GGraph) (caps : List Int) (r : RunP) : Int := if r.failed ≠ none then 3 else if readyL g caps r = [] then 5 else 0
theorem dFailed_any {w : World} {o : Col} {R b : Nat} {g : GGraph} {caps : List Int} {N : Nat → Nat} {qs : Ptrs} {r : RunP} {v : RVals} (h : RigAt w o R b g caps N qs r v) : Calls Tryz.prog 23 #[.pointer (some ⟨b, 0, none⟩)] w (SameW (.int .i64 (failI r)) w) := by
 have hb := h.blk
 unfold rigV at hb
 have c4 := hb.cell 4 _ rfl
 change w.cell? _ = some (.int .i64 (failI r)) at c4
 generalize failI r = x at c4 ⊢
 clear h hb
 go_enter Tryz.func23, Tryz.ntmps23
 go_wp2_with fail
 go_ret
 exact ⟨rfl, rfl⟩
set_option maxRecDepth 100000 in
set_option maxHeartbeats 1000000 in
theorem dHalt_any {w : World} {o : Col} {R b : Nat} {g : GGraph} {caps : List Int} {N : Nat → Nat} {s : Nat} {qs : Ptrs} {r : RunP} {v : RVals} (h : RigAt w o R b g caps N qs r v) (hL : Linked g) (hcl : caps.length = g.edges.length) (hK : ROk g s r.rig) (hN : ∀ d, N d ≤ 27000000000000) :
  Calls Tryz.prog 16 #[.pointer (some ⟨b, 0, none⟩)] w (Tells (.int .u8 (haltI g caps r)) w) := by
 have hb := h.blk
 unfold rigV at hb
 have c4 := hb.cell 4 _ rfl
 have hR := dReady_any h hL hcl hK hN
 unfold haltI
 cases hf : r.failed with
 | some t =>
  rw [hf] at c4
  change w.cell? _ = some (.int .i64 (t : Int)) at c4
  have ht0 : (0 : Int) ≤ (t : Int) := by omega
  rw [if_pos (by simp)]
  clear h hb hR hL hcl hK hN hf
  go_enter Tryz.func16, Tryz.ntmps16
  go_wp2_with fail
  go_ret
  exact ⟨rfl, Below.refl _ _⟩
 | none =>
  rw [hf] at c4
  change w.cell? _ = some (.int .i64 (-1)) at c4
  have hm1 : ¬ (0 : Int) ≤ (-1 : Int) := by omega
  rw [if_neg (by simp)]
  have hz : (((rdyI g caps r).length : Int) == 0) = decide (readyL g caps r = []) := by
   unfold rdyI
   cases hl : readyL g caps r with
   | nil => simp
   | cons a l => rw [decide_eq_false (by simp), beq_eq_false_iff_ne]; simp; omega
  obtain ⟨L, hL2⟩ : ∃ L, (rdyI g caps r).length = L := ⟨_, rfl⟩
  unfold DInts at hR
  rw [hL2] at hz hR
  have HR := Lib.hid hR
  clear h hb hR hL hcl hK hN hf hL2
  by_cases he : readyL g caps r = []
  ·
   rw [if_pos he]
   rw [decide_eq_true he] at hz
   clear he
   go_enter Tryz.func16, Tryz.ntmps16
   go_wp2_with fail
   refine HR.out.mono ?_
   rintro e w1 ⟨x, rfl, hO, hB⟩
   obtain ⟨sa, sc, rfl⟩ := owns_slice hO
   have HB := Lib.hid hB
   clear hO hB
   go_wp2_with fail
   go_ret
   exact ⟨rfl, HB.out⟩
  ·
   rw [if_neg he]
   rw [decide_eq_false he] at hz
   clear he
   go_enter Tryz.func16, Tryz.ntmps16
   go_wp2_with fail
   refine HR.out.mono ?_
   rintro e w1 ⟨x, rfl, hO, hB⟩
   obtain ⟨sa, sc, rfl⟩ := owns_slice hO
   have HB := Lib.hid hB
   clear hO hB
   go_wp2_with fail
   go_ret
   exact ⟨rfl, HB.out⟩
end Go.Proofs.YtaholpfikcdhbaaGreat

/- A rig in memory whose tasks and tokens are as they must be: Step keeps that. -/
namespace Go.Proofs.YtaholpfikcdhbaaGreat
open Go.RowKit
structure GOk (g : GGraph) (caps : List Int) : Prop where
 linked : Linked g
 acts : ActsOk g
 caps : caps.length = g.edges.length
structure RigOk (w : World) (o : Col) (R b : Nat) (g : GGraph) (caps : List Int) (M : Nat) (J : Nat → Nat) (qs : Ptrs) (tb : Nat → Nat) (r : RunP) (v : RVals) : Prop where
 mem : RigAt w o R b g caps (bndD g M J) qs r v
 ok : ROk g M r.rig
 len : ∀ d, (r.rig.strs d).length ≤ bndD g M J d
 ins : ∀ k, J k < 27000000000000
 tbs : v.tb = tb
theorem RigOk.lt {w : World} {o : Col} {R b : Nat} {g : GGraph} {caps : List Int} {M : Nat} {J : Nat → Nat} {qs : Ptrs} {tb : Nat → Nat} {r : RunP} {v : RVals} (h : RigOk w o R b g caps M J qs tb r v) (hM : M < 27000000000000) (d : Nat) : bndD g M J d < 27000000000000 := by
 unfold bndD
 split
 ·
  exact h.ins _
 ·
  exact hM
theorem RigOk.tape {w : World} {o : Col} {R b : Nat} {g : GGraph} {caps : List Int} {M : Nat} {J : Nat → Nat} {qs : Ptrs} {tb : Nat → Nat} {r : RunP} {v : RVals} (h : RigOk w o R b g caps M J qs tb r v) (hM : M < 27000000000000) (d : Nat) (hd : g.edges.length + g.ins.length ≤ d) : (r.rig.strs d).length < 27000000000000 := by
 have := h.len d
 rw [bndD_tape hd] at this
 omega
theorem ROk.mono {g : GGraph} {s s' : Nat} {r : RigP} (h : ROk g s r) (hs : s ≤ s') : ROk g s' r := ⟨fun t ht => (h.task t ht).later hs, h.fits⟩
theorem RigOk.mono {w : World} {o : Col} {R b : Nat} {g : GGraph} {caps : List Int} {M M' : Nat} {J : Nat → Nat} {qs : Ptrs} {tb : Nat → Nat} {r : RunP} {v : RVals} (h : RigOk w o R b g caps M J qs tb r v) (hM : M ≤ M') : RigOk w o R b g caps M' J qs tb r v := ⟨h.mem.mono (bndD_mono hM), h.ok.mono hM, fun d => Nat.le_trans (h.len d) (bndD_mono hM d), h.ins, h.tbs⟩
theorem RigOk.turn {w w' : World} {o o' : Col} {C : Nat → Prop} {R b : Nat} {g : GGraph} {caps : List Int} {M : Nat} {J : Nat → Nat} {qs : Ptrs} {tb : Nat → Nat} {r : RunP} {v : RVals} (h : RigOk w o R b g caps M J qs tb r v) (T : Turn o o' C w w') (hC : ∀ k, C k → ¬ MineR R k) : RigOk w' o' R b g caps M J qs tb r v := ⟨h.mem.turn T hC, h.ok, h.len, h.ins, h.tbs⟩
theorem str_len {g : GGraph} {caps : List Int} {s s1 : RigP} {t M m : Nat} {J : Nat → Nat} (hL : Linked g) (hK : ROk g m s) (h : stepP g caps s t = .goes s1) (hl : ∀ d, (s.strs d).length ≤ bndD g M J d) : ∀ d, (s1.strs d).length ≤ bndD g (M + 1) J d := by
 obtain ⟨ht, k⟩ := step_kind.1 h
 intro d
 have hd := Nat.le_trans (hl d) (bndD_mono (M' := M + 1) (by omega) d)
 cases k with
 | give x hg hf hx =>
  show (upd s.strs (toP g t (s.tasks t).port) (s.strs (toP g t (s.tasks t).port) ++ [nextP (s.tasks t)]) d).length ≤ bndD g (M + 1) J d
  have hp := ((hK.task t ht).give hg).1
  by_cases e : d = toP g t (s.tasks t).port
  ·
   rw [e, upd_same, List.length_append]
   have := hl (toP g t (s.tasks t).port)
   rcases hL.out t _ ht hp with h1 | h1
   ·
    rw [bndD_edge h1] at this ⊢
    simp
    omega
   ·
    rw [bndD_tape h1.1] at this ⊢
    simp
    omega
  ·
   rw [upd_other e]; exact hd
 | take x v l hg hp hv hx =>
  show (upd s.strs (fromP g t (s.tasks t).port) l d).length ≤ bndD g (M + 1) J d
  by_cases e : d = fromP g t (s.tasks t).port
  ·
   rw [e, upd_same]
   rw [e, hv] at hd
   simp at hd
   omega
  ·
   rw [upd_other e]; exact hd
 | fire x hg hp he hx => exact hd
theorem stepR_ok {g : GGraph} {caps : List Int} {r : RunP} {t M : Nat} {J : Nat → Nat} (hL : Linked g) (hga : ActsOk g) (h1 : ROk g M r.rig) (h2 : ∀ d, (r.rig.strs d).length ≤ bndD g M J d) : ROk g (M + 1) (stepR g caps r t).1.rig ∧ ∀ d, ((stepR g caps r t).1.rig.strs d).length ≤ bndD g (M + 1) J d := by
 have same : ROk g (M + 1) r.rig ∧ ∀ d, (r.rig.strs d).length ≤ bndD g (M + 1) J d := ⟨h1.mono (by omega), fun d => Nat.le_trans (h2 d) (bndD_mono (by omega) d)⟩
 unfold stepR
 cases r.failed with
 | some t => exact same
 | none =>
  simp only
  cases hs : stepP g caps r.rig t with
  | waits => exact same
  | fails => exact same
  | goes s' => exact ⟨h1.step hga hs, str_len hL h1 hs h2⟩
def OkRet (w : World) (o : Col) (R b : Nat) (g : GGraph) (caps : List Int) (M : Nat) (J : Nat → Nat) (qs : Ptrs) (tb : Nat → Nat) (x : RunP) (y : Value) (e : Ending) (w' : World) : Prop :=
 ∃ o' v', e = .returned y ∧ Turn o o' (MineR R) w w' ∧ RigOk w' o' R b g caps M J qs tb x v'
theorem dStep_ok {w : World} {o : Col} {R b : Nat} {g : GGraph} {caps : List Int} {M : Nat} {J : Nat → Nat} {qs : Ptrs} {tb : Nat → Nat} {r : RunP} {v : RVals} (k : Int) (h : RigOk w o R b g caps M J qs tb r v) (hG : GOk g caps) (hM : M < 27000000000000) :
  Calls Tryz.prog 18 #[.pointer (some ⟨b, 0, none⟩), .int .i64 k] w (OkRet w o R b g caps (M + 1) J qs tb (stepI g caps r k).1 (.bool (stepI g caps r k).2)) := by
 refine (dStep_any k h.mem hG.linked hG.acts hG.caps h.ok (by omega) (h.lt hM) (h.tape hM)).mono ?_
 rintro e w' ⟨o', v', he, T, ht, K⟩
 have hh : ROk g (M + 1) (stepI g caps r k).1.rig ∧ ∀ d, ((stepI g caps r k).1.rig.strs d).length ≤ bndD g (M + 1) J d := by
  unfold stepI
  split
  ·
   exact ⟨h.ok.mono (by omega), fun d => Nat.le_trans (h.len d) (bndD_mono (by omega) d)⟩
  ·
   exact stepR_ok hG.linked hG.acts h.ok h.len
 rw [stepN_bnd] at K
 exact ⟨o', v', he, T, K, hh.1, hh.2, h.ins, ht.trans h.tbs⟩
end Go.Proofs.YtaholpfikcdhbaaGreat

/- Rig.Rounds. -/
namespace Go.Proofs.YtaholpfikcdhbaaGreat
open Go.RowKit
theorem stepI_nat (g : GGraph) (caps : List Int) (r : RunP) (t : Nat) : stepI g caps r (t : Int) = stepR g caps r t := by
 unfold stepI
 rw [if_neg (by omega)]
 rfl
theorem round_drop {g : GGraph} {caps : List Int} {r : RunP} {n j : Nat} (h : j < n) : roundP g caps ((List.range n).drop j) r = ((roundP g caps ((List.range n).drop (j + 1)) (stepR g caps r j).1).1, (roundP g caps ((List.range n).drop (j + 1)) (stepR g caps r j).1).2 + (if (stepR g caps r j).2 then 1 else 0)) := by
 rw [List.drop_eq_getElem_cons (by simpa using h)]
 simp only [List.getElem_range]
 rfl
theorem rounds_zero {g : GGraph} {caps : List Int} {r : RunP} {m : Nat} (h : (roundP g caps (List.range g.actors.length) r).2 = 0) : roundsP g caps (m + 1) r = ((roundP g caps (List.range g.actors.length) r).1, 0) := by rw [roundsP, if_pos h]
theorem rounds_more {g : GGraph} {caps : List Int} {r : RunP} {m : Nat} (h : (roundP g caps (List.range g.actors.length) r).2 ≠ 0) : roundsP g caps (m + 1) r = ((roundsP g caps m (roundP g caps (List.range g.actors.length) r).1).1, (roundsP g caps m (roundP g caps (List.range g.actors.length) r).1).2 + (roundP g caps (List.range g.actors.length) r).2) := by rw [roundsP, if_neg h]
set_option maxRecDepth 100000 in
set_option maxHeartbeats 4000000 in
theorem dRounds_mid {w : World} {o : Col} {R b : Nat} {g : GGraph} {caps : List Int} {M : Nat} {J : Nat → Nat} {qs : Ptrs} {tb : Nat → Nat} {r : RunP} {v : RVals} (k : Int) (hk0 : 0 < k) (hk4 : k ≤ 4096) (h : RigOk w o R b g caps M J qs tb r v) (hG : GOk g caps) (hM : M ≤ 26000000000000) :
  Calls Tryz.prog 20 #[.pointer (some ⟨b, 0, none⟩), .int .i64 k] w (OkRet w o R b g caps (M + 4096 * 32) J qs tb (roundsP g caps (min k 4096).toNat r).1 (.int .i64 (roundsP g caps (min k 4096).toNat r).2)) := by
 obtain ⟨n, hn⟩ : ∃ n, g.actors.length = n := ⟨_, rfl⟩
 have hn32 : n ≤ 32 := by rw [← hn]; exact h.mem.few.1
 obtain ⟨K, hK⟩ : ∃ K, (min k 4096).toNat = K := ⟨_, rfl⟩
 obtain rfl : k = (K : Int) := by omega
 have hK4 : K ≤ 4096 := by omega
 obtain ⟨F, hF⟩ : ∃ F, roundsP g caps K r = F := ⟨_, rfl⟩
 rw [hK, hF]
 have H := Lib.hid h
 have HG := Lib.hid hG
 have HF := Lib.hid hF
 have HN := Lib.hid hn
 clear h hG hF hn hK
 go_enter Tryz.func20, Tryz.ntmps20
 go_wp2_with fail
 go_loopw [5, 13] (fun d i wl => ∃ (j D : Nat) (r' : RunP) (o' : Col) (v' : RVals), j ≤ K ∧ i = .int .i64 j ∧ d = .int .i64 D ∧ D ≤ 32 * j ∧ Turn o o' (MineR R) w wl ∧ RigOk wl o' R b g caps (M + 32 * j) J qs tb r' v' ∧ (roundsP g caps (K - j) r').1 = F.1 ∧ (roundsP g caps (K - j) r').2 + D = F.2) (fun _ i _ => K - (intOf i).toNat)
 case atStart => exact ⟨0, 0, r, o, v, Nat.zero_le _, rfl, rfl, Nat.zero_le _, Turn.refl _ _ _, H.out, by rw [Nat.sub_zero, HF.out], by rw [Nat.sub_zero, HF.out]; rfl⟩
 case round =>
  obtain ⟨j, D, r', o', v', hj, rfl, rfl, hD, T, hR, e1, e2⟩ := hrel
  have HT := Lib.hid T
  have HR := Lib.hid hR
  have HE := Lib.hid (And.intro e1 e2)
  clear T hR e1 e2
  by_cases hlt : j < K
  ·
   have hlti : (j : Int) < (K : Int) := by omega
   have c0 := HR.out.mem.blk.cell 0 _ rfl
   change wr.cell? _ = some v'.tasks at c0
   obtain ⟨ta, tc, u1⟩ := HR.out.mem.tasks.slice
   rw [List.length_map, List.length_range, HN.out] at u1
   rw [u1] at c0
   clear u1
   obtain ⟨G, hGe⟩ : ∃ G, roundP g caps (List.range n) r' = G := ⟨_, rfl⟩
   have HGE := Lib.hid hGe
   clear hGe
   go_wp2_with fail
   go_loopw [5, 21] (fun d i wl => ∃ (a c : Nat) (r2 : RunP) (o2 : Col) (v2 : RVals), a ≤ n ∧ i = .int .i64 a ∧ d = .int .i64 ((D + c : Nat) : Int) ∧ c ≤ a ∧ Turn o o2 (MineR R) w wl ∧ RigOk wl o2 R b g caps (M + 32 * j + a) J qs tb r2 v2 ∧ (roundP g caps ((List.range n).drop a) r2).1 = G.1 ∧ (roundP g caps ((List.range n).drop a) r2).2 + c = G.2) (fun _ i _ => n - (intOf i).toNat)
   case atStart => exact ⟨0, 0, r', o', v', Nat.zero_le _, rfl, rfl, Nat.le_refl _, HT.out, HR.out, by rw [List.drop_zero, HGE.out], by rw [List.drop_zero, HGE.out]; rfl⟩
   case round =>
    obtain ⟨a, c, r2, o2, v2, ha, rfl, rfl, hc, T2, hR2, q1, q2⟩ := hrel
    have HT2 := Lib.hid T2
    have HR2 := Lib.hid hR2
    have HQ := Lib.hid (And.intro q1 q2)
    obtain ⟨E, hE⟩ : ∃ E, D + c = E := ⟨_, rfl⟩
    rw [hE]
    clear T2 hR2 q1 q2
    by_cases hat : a < n
    ·
     have hati : (a : Int) < (n : Int) := by omega
     have hwr : IntKind.i64.wrap ((E : Int) + 1) = (E : Int) + 1 := IntWalk.i64_in _ (by omega)
     have HE2 := Lib.hid hE
     clear hE
     go_wp2_with fail
     refine (dStep_ok (a : Int) HR2.out HG.out (by omega)).mono ?_
     rintro e w3 ⟨o3, v3, rfl, T3, R3⟩
     rw [stepI_nat] at R3 ⊢
     have HT3 := Lib.hid (HT2.out.trans T3 (fun _ h => h))
     have HR3 := Lib.hid R3
     have HD := Lib.hid (round_drop (g := g) (caps := caps) (r := r2) hat)
     clear T3 R3
     cases hz : (stepR g caps r2 a).2 with
     | true =>
      have HZ := Lib.hid hz
      clear hz
      go_wp2_with fail
      go_roundw
      case rel =>
       obtain ⟨q1, q2⟩ := HQ.out
       rw [HD.out, HZ.out] at q1 q2
       exact ⟨a + 1, c + 1, _, o3, v3, hat, by go_num, by rw [← Nat.add_assoc, HE2.out]; go_num, by omega, HT3.out, HR3.out, q1, by simp at q2; omega⟩
      case measure => simp [intOf]; omega
     | false =>
      have HZ := Lib.hid hz
      clear hz
      go_wp2_with fail
      go_roundw
      case rel =>
       obtain ⟨q1, q2⟩ := HQ.out
       rw [HD.out, HZ.out] at q1 q2
       exact ⟨a + 1, c, _, o3, v3, hat, by go_num, by rw [HE2.out], by omega, HT3.out, HR3.out, q1, by simp at q2; omega⟩
      case measure => simp [intOf]; omega
    ·
     have han : a = n := by omega
     have hfin : r2 = G.1 ∧ c = G.2 := by
      obtain ⟨q1, q2⟩ := HQ.out
      rw [List.drop_eq_nil_of_le (by simp; omega)] at q1 q2
      exact ⟨q1, by simpa [roundP] using q2⟩
     have HFIN := Lib.hid hfin
     have hKj : K - j = (K - (j + 1)) + 1 := by omega
     have HKJ := Lib.hid hKj
     have hni : ¬ (a : Int) < (n : Int) := by omega
     have HAN := Lib.hid han
     clear hfin hKj hat han
     by_cases hc0 : c = 0
     ·
      have hEq : ((E : Int) == (D : Int)) = true := by rw [beq_iff_eq]; omega
      have HC0 := Lib.hid (And.intro hc0 hE)
      clear hc0 hE
      go_wp2_with fail
      go_ret
      obtain ⟨e1, e2⟩ := HE.out
      rw [HKJ.out, rounds_zero (by rw [HN.out, HGE.out, ← HFIN.out.2]; exact HC0.out.1)] at e1 e2
      rw [HN.out, HGE.out, ← HFIN.out.1] at e1
      refine ⟨o2, v2, ?_, HT2.out, ?_⟩
      ·
       have : E = F.2 := by have := HC0.out; simp at e2; omega
       rw [this]
       rfl
      ·
       rw [← e1]
       exact HR2.out.mono (by omega)
     ·
      have hEq : ((E : Int) == (D : Int)) = false := by rw [beq_eq_false_iff_ne]; omega
      have HC0 := Lib.hid (And.intro hc0 hE)
      clear hc0 hE
      go_wp2_with fail
      go_roundw
      case rel =>
       obtain ⟨e1, e2⟩ := HE.out
       rw [HKJ.out, rounds_more (by rw [HN.out, HGE.out, ← HFIN.out.2]; exact HC0.out.1), HN.out, HGE.out, ← HFIN.out.1, ← HFIN.out.2] at e1 e2
       exact ⟨j + 1, E, r2, o2, v2, hlt, by go_num, rfl, by have := HC0.out.2; omega, HT2.out, HR2.out.mono (by omega), e1, by have := HC0.out.2; dsimp only at e2; omega⟩
      case measure => simp [intOf]; omega
  ·
   obtain rfl : j = K := by omega
   go_wp2
   go_ret
   obtain ⟨e1, e2⟩ := HE.out
   rw [Nat.sub_self] at e1 e2
   refine ⟨o', v', ?_, HT.out, ?_⟩
   ·
    have : D = F.2 := by rw [← e2]; show D = 0 + D; omega
    rw [this]
    rfl
   ·
    rw [← e1]
    exact HR.out.mono (by omega)
set_option maxRecDepth 100000 in
set_option maxHeartbeats 4000000 in
theorem dRounds_big {w : World} {o : Col} {R b : Nat} {g : GGraph} {caps : List Int} {M : Nat} {J : Nat → Nat} {qs : Ptrs} {tb : Nat → Nat} {r : RunP} {v : RVals} (k : Int) (hk : 4096 < k) (h : RigOk w o R b g caps M J qs tb r v) (hG : GOk g caps) (hM : M ≤ 26000000000000) :
  Calls Tryz.prog 20 #[.pointer (some ⟨b, 0, none⟩), .int .i64 k] w (OkRet w o R b g caps (M + 4096 * 32) J qs tb (roundsP g caps 4096 r).1 (.int .i64 (roundsP g caps 4096 r).2)) := by
 obtain ⟨n, hn⟩ : ∃ n, g.actors.length = n := ⟨_, rfl⟩
 have hn32 : n ≤ 32 := by rw [← hn]; exact h.mem.few.1
 obtain ⟨F, hF⟩ : ∃ F, roundsP g caps 4096 r = F := ⟨_, rfl⟩
 rw [hF]
 have H := Lib.hid h
 have HG := Lib.hid hG
 have HF := Lib.hid hF
 have HN := Lib.hid hn
 clear h hG hF hn
 go_enter Tryz.func20, Tryz.ntmps20
 go_wp2_with fail
 go_loopw [5, 13] (fun d i wl => ∃ (j D : Nat) (r' : RunP) (o' : Col) (v' : RVals), j ≤ 4096 ∧ i = .int .i64 j ∧ d = .int .i64 D ∧ D ≤ 32 * j ∧ Turn o o' (MineR R) w wl ∧ RigOk wl o' R b g caps (M + 32 * j) J qs tb r' v' ∧ (roundsP g caps (4096 - j) r').1 = F.1 ∧ (roundsP g caps (4096 - j) r').2 + D = F.2) (fun _ i _ => 4096 - (intOf i).toNat)
 case atStart => exact ⟨0, 0, r, o, v, Nat.zero_le _, rfl, rfl, Nat.zero_le _, Turn.refl _ _ _, H.out, by rw [Nat.sub_zero, HF.out], by rw [Nat.sub_zero, HF.out]; rfl⟩
 case round =>
  obtain ⟨j, D, r', o', v', hj, rfl, rfl, hD, T, hR, e1, e2⟩ := hrel
  have HT := Lib.hid T
  have HR := Lib.hid hR
  have HE := Lib.hid (And.intro e1 e2)
  clear T hR e1 e2
  by_cases hlt : j < 4096
  ·
   have hlti : (j : Int) < (4096 : Int) := by omega
   have c0 := HR.out.mem.blk.cell 0 _ rfl
   change wr.cell? _ = some v'.tasks at c0
   obtain ⟨ta, tc, u1⟩ := HR.out.mem.tasks.slice
   rw [List.length_map, List.length_range, HN.out] at u1
   rw [u1] at c0
   clear u1
   obtain ⟨G, hGe⟩ : ∃ G, roundP g caps (List.range n) r' = G := ⟨_, rfl⟩
   have HGE := Lib.hid hGe
   clear hGe
   go_wp2_with fail
   go_loopw [5, 21] (fun d i wl => ∃ (a c : Nat) (r2 : RunP) (o2 : Col) (v2 : RVals), a ≤ n ∧ i = .int .i64 a ∧ d = .int .i64 ((D + c : Nat) : Int) ∧ c ≤ a ∧ Turn o o2 (MineR R) w wl ∧ RigOk wl o2 R b g caps (M + 32 * j + a) J qs tb r2 v2 ∧ (roundP g caps ((List.range n).drop a) r2).1 = G.1 ∧ (roundP g caps ((List.range n).drop a) r2).2 + c = G.2) (fun _ i _ => n - (intOf i).toNat)
   case atStart => exact ⟨0, 0, r', o', v', Nat.zero_le _, rfl, rfl, Nat.le_refl _, HT.out, HR.out, by rw [List.drop_zero, HGE.out], by rw [List.drop_zero, HGE.out]; rfl⟩
   case round =>
    obtain ⟨a, c, r2, o2, v2, ha, rfl, rfl, hc, T2, hR2, q1, q2⟩ := hrel
    have HT2 := Lib.hid T2
    have HR2 := Lib.hid hR2
    have HQ := Lib.hid (And.intro q1 q2)
    obtain ⟨E, hE⟩ : ∃ E, D + c = E := ⟨_, rfl⟩
    rw [hE]
    clear T2 hR2 q1 q2
    by_cases hat : a < n
    ·
     have hati : (a : Int) < (n : Int) := by omega
     have hwr : IntKind.i64.wrap ((E : Int) + 1) = (E : Int) + 1 := IntWalk.i64_in _ (by omega)
     have HE2 := Lib.hid hE
     clear hE
     go_wp2_with fail
     refine (dStep_ok (a : Int) HR2.out HG.out (by omega)).mono ?_
     rintro e w3 ⟨o3, v3, rfl, T3, R3⟩
     rw [stepI_nat] at R3 ⊢
     have HT3 := Lib.hid (HT2.out.trans T3 (fun _ h => h))
     have HR3 := Lib.hid R3
     have HD := Lib.hid (round_drop (g := g) (caps := caps) (r := r2) hat)
     clear T3 R3
     cases hz : (stepR g caps r2 a).2 with
     | true =>
      have HZ := Lib.hid hz
      clear hz
      go_wp2_with fail
      go_roundw
      case rel =>
       obtain ⟨q1, q2⟩ := HQ.out
       rw [HD.out, HZ.out] at q1 q2
       exact ⟨a + 1, c + 1, _, o3, v3, hat, by go_num, by rw [← Nat.add_assoc, HE2.out]; go_num, by omega, HT3.out, HR3.out, q1, by simp at q2; omega⟩
      case measure => simp [intOf]; omega
     | false =>
      have HZ := Lib.hid hz
      clear hz
      go_wp2_with fail
      go_roundw
      case rel =>
       obtain ⟨q1, q2⟩ := HQ.out
       rw [HD.out, HZ.out] at q1 q2
       exact ⟨a + 1, c, _, o3, v3, hat, by go_num, by rw [HE2.out], by omega, HT3.out, HR3.out, q1, by simp at q2; omega⟩
      case measure => simp [intOf]; omega
    ·
     have han : a = n := by omega
     have hfin : r2 = G.1 ∧ c = G.2 := by
      obtain ⟨q1, q2⟩ := HQ.out
      rw [List.drop_eq_nil_of_le (by simp; omega)] at q1 q2
      exact ⟨q1, by simpa [roundP] using q2⟩
     have HFIN := Lib.hid hfin
     have hKj : 4096 - j = (4096 - (j + 1)) + 1 := by omega
     have HKJ := Lib.hid hKj
     have hni : ¬ (a : Int) < (n : Int) := by omega
     have HAN := Lib.hid han
     clear hfin hKj hat han
     by_cases hc0 : c = 0
     ·
      have hEq : ((E : Int) == (D : Int)) = true := by rw [beq_iff_eq]; omega
      have HC0 := Lib.hid (And.intro hc0 hE)
      clear hc0 hE
      go_wp2_with fail
      go_ret
      obtain ⟨e1, e2⟩ := HE.out
      rw [HKJ.out, rounds_zero (by rw [HN.out, HGE.out, ← HFIN.out.2]; exact HC0.out.1)] at e1 e2
      rw [HN.out, HGE.out, ← HFIN.out.1] at e1
      refine ⟨o2, v2, ?_, HT2.out, ?_⟩
      ·
       have : E = F.2 := by have := HC0.out; simp at e2; omega
       rw [this]
       rfl
      ·
       rw [← e1]
       exact HR2.out.mono (by omega)
     ·
      have hEq : ((E : Int) == (D : Int)) = false := by rw [beq_eq_false_iff_ne]; omega
      have HC0 := Lib.hid (And.intro hc0 hE)
      clear hc0 hE
      go_wp2_with fail
      go_roundw
      case rel =>
       obtain ⟨e1, e2⟩ := HE.out
       rw [HKJ.out, rounds_more (by rw [HN.out, HGE.out, ← HFIN.out.2]; exact HC0.out.1), HN.out, HGE.out, ← HFIN.out.1, ← HFIN.out.2] at e1 e2
       exact ⟨j + 1, E, r2, o2, v2, hlt, by go_num, rfl, by have := HC0.out.2; omega, HT2.out, HR2.out.mono (by omega), e1, by have := HC0.out.2; dsimp only at e2; omega⟩
      case measure => simp [intOf]; omega
  ·
   obtain rfl : j = 4096 := by omega
   go_wp2
   go_ret
   obtain ⟨e1, e2⟩ := HE.out
   rw [Nat.sub_self] at e1 e2
   refine ⟨o', v', ?_, HT.out, ?_⟩
   ·
    have : D = F.2 := by rw [← e2]; show D = 0 + D; omega
    rw [this]
    rfl
   ·
    rw [← e1]
    exact HR.out.mono (by omega)
theorem dRounds_none {w : World} {o : Col} {R b : Nat} {g : GGraph} {caps : List Int} {M : Nat} {J : Nat → Nat} {qs : Ptrs} {tb : Nat → Nat} {r : RunP} {v : RVals} (k : Int) (hk : k ≤ 0) (h : RigOk w o R b g caps M J qs tb r v) :
  Calls Tryz.prog 20 #[.pointer (some ⟨b, 0, none⟩), .int .i64 k] w (OkRet w o R b g caps (M + 4096 * 32) J qs tb r (.int .i64 0)) := by
 have H := Lib.hid h
 have hk4 : ¬ 4096 < k := by omega
 have hk0 : ¬ 0 < k := by omega
 clear h
 go_enter Tryz.func20, Tryz.ntmps20
 go_wp2_with fail
 go_loopw [5, 13] (fun d i wl => i = .int .i64 0 ∧ d = .int .i64 0 ∧ wl = w) (fun _ _ _ => 0)
 case atStart => exact ⟨rfl, rfl, rfl⟩
 case round =>
  obtain ⟨rfl, rfl, rfl⟩ := hrel
  go_wp2_with fail
  go_ret
  exact ⟨o, v, rfl, Turn.refl _ _ _, H.out.mono (by omega)⟩
theorem dRounds_ok {w : World} {o : Col} {R b : Nat} {g : GGraph} {caps : List Int} {M : Nat} {J : Nat → Nat} {qs : Ptrs} {tb : Nat → Nat} {r : RunP} {v : RVals} (k : Int) (h : RigOk w o R b g caps M J qs tb r v) (hG : GOk g caps) (hM : M ≤ 26000000000000) :
  Calls Tryz.prog 20 #[.pointer (some ⟨b, 0, none⟩), .int .i64 k] w (OkRet w o R b g caps (M + 4096 * 32) J qs tb (roundsP g caps (min k 4096).toNat r).1 (.int .i64 (roundsP g caps (min k 4096).toNat r).2)) := by
 by_cases h0 : k ≤ 0
 ·
  have e : (min k 4096).toNat = 0 := by omega
  rw [e]
  exact dRounds_none k h0 h
 ·
  by_cases h4 : 4096 < k
  ·
   have e : (min k 4096).toNat = 4096 := by omega
   rw [e]
   exact dRounds_big k h4 h hG hM
  ·
   exact dRounds_mid k (by omega) (by omega) h hG hM
end Go.Proofs.YtaholpfikcdhbaaGreat

/- Rig.Out. -/
namespace Go.Proofs.YtaholpfikcdhbaaGreat
open Go.RowKit
def outI (g : GGraph) (r : RunP) (k : Int) : List Int := if 0 ≤ k ∧ k < g.outs.length then outS g r.rig k.toNat else []
theorem dints_nil (w : World) : DInts w [] (.returned (.slice none 0 0)) w := ⟨_, rfl, World.ownsRow_nil w w.heap.size 3 1, Below.refl _ _⟩
set_option maxRecDepth 100000 in
set_option maxHeartbeats 1000000 in
theorem dOut_any {w : World} {o : Col} {R b : Nat} {g : GGraph} {caps : List Int} {N : Nat → Nat} {qs : Ptrs} {r : RunP} {v : RVals} (k : Int) (h : RigAt w o R b g caps N qs r v) (hl : ∀ d, g.edges.length + g.ins.length ≤ d → (r.rig.strs d).length ≤ 27000000000000) : Calls Tryz.prog 38 #[.pointer (some ⟨b, 0, none⟩), .int .i64 k] w (DInts w (outI g r k)) := by
 have hb := h.blk
 unfold rigV at hb
 have c3 := hb.cell 3 _ rfl
 change w.cell? _ = some v.tapes at c3
 obtain ⟨ta, tc, e1⟩ := h.tapes.slice
 rw [List.length_map, List.length_range] at e1
 rw [e1] at c3
 obtain ⟨n, hn⟩ : ∃ n, g.outs.length = n := ⟨_, rfl⟩
 rw [hn] at c3
 unfold outI
 rw [hn]
 by_cases h0 : k < 0
 ·
  rw [if_neg (by omega)]
  clear h hb e1 hn hl
  go_enter Tryz.func38, Tryz.ntmps38
  go_wp2_with fail
  go_ret
  exact dints_nil w
 ·
  by_cases h1 : k < n
  ·
   rw [if_pos (by omega)]
   obtain ⟨t, rfl⟩ : ∃ t : Nat, k = t := ⟨k.toNat, by omega⟩
   have ht : t < g.outs.length := by omega
   obtain ⟨gt, ft, ct, u1, u2, u3, -⟩ := vals_at2 h.tapes (k := t) (by simpa using ht)
   simp only [List.length_map, List.length_range, List.getElem_map, List.getElem_range] at u1 u2 u3
   rw [e1, hn] at u1
   simp only [Value.slice.injEq] at u1
   obtain ⟨rfl, -, rfl⟩ := u1
   rw [hn] at u2
   have hcti : (n : Int) ≤ tc := by omega
   have hti : ¬ (n : Int) ≤ (t : Int) := by omega
   obtain ⟨k1, k2⟩ := h.tape (g.edges.length + g.ins.length + t) (by omega) (by omega)
   obtain ⟨q, hq⟩ : ∃ q, qs (g.edges.length + g.ins.length + t) = q := ⟨_, rfl⟩
   rw [hq] at u3 k1
   change w.cell? _ = some (.pointer (some ⟨q, 0, none⟩)) at u3
   rw [Int.toNat_natCast]
   change Calls _ _ _ _ (DInts w (r.rig.strs (g.edges.length + g.ins.length + t)))
   have hn2 := hl (g.edges.length + g.ins.length + t) (by omega)
   obtain ⟨l, hle⟩ : ∃ l, r.rig.strs (g.edges.length + g.ins.length + t) = l := ⟨_, rfl⟩
   rw [hle] at k2 hn2 ⊢
   have d0 := k1.cell 0 _ rfl
   change w.cell? _ = some (v.rows _) at d0
   have hI : Ints w o _ _ l := k2.vals
   obtain ⟨ao, cap, e2⟩ := k2.slice
   rw [e2] at d0 hI
   obtain ⟨hnone, hnews⟩ := hI.news
   obtain ⟨i0, hi, hz0, hz1, hz2⟩ := info_parts info_int
   have HN := Lib.hid hn2
   have Hnone := Lib.hid hnone
   have Hnews := Lib.hid hnews
   have T1 := Turn.of_below o 0 (below_alloc w (.cells #[] 3))
   have c3' := T1.cell c3 (fun h => h)
   have u3' := T1.cell u3 (fun h => h)
   have d0' := T1.cell d0 (fun h => h)
   clear h hb e1 hn hl u2 k1 k2 e2 hI hnone hnews hle hn2 hq T1
   go_enter Tryz.func38, Tryz.ntmps38
   have hown0 := World.ownsRow_made (e := 3) (size := 1) (base := w.heap.size) w #[] 0 (Nat.le_refl _) (Nat.zero_le _) rfl
   go_wp2_with (at_builtin; refine wpList_app rfl _ _ 27 rfl w.heap.size 3 i0 _ 1 8 Tryz.underlying27 hi hz0 hz1 hz2 rfl (.slice (some ⟨w.heap.size, 0, none⟩) 0 0) 0 [] rfl hown0 ao l.length cap (ivs l) rfl (by simp) Hnone.out (fun ad had j u hu => ca (Hnews.out ad had j u hu)) (ivs_one l) (by have := HN.out; unfold maxLen; omega) (grow_ok (by have := HN.out; omega)) (by simp) ?_; refine stop_here ?_)
   refine go_on ?_
   intro v' w2 g1 g20 g3 g4
   have g2 : (w.alloc (.cells #[] 3)).grownBy w2 (Value.slice (some ⟨w.heap.size, 0, none⟩) 0 0).ownBlock := g20
   have hb : Below w.heap.size w w2 := (((Mods.refl (fun _ => False) w).alloc (.cells #[] 3)).grown g2 (fun k hk hlt => by have := Option.some.inj hk; simp at this; omega)).below (Nat.le_refl _) (fun _ _ h => h)
   try simp only [Nat.zero_add, List.nil_append] at g1
   have HG1 := Lib.hid g1
   have HB := Lib.hid hb
   clear g20 g2 g3 g4 hown0 g1 hb
   go_wp2
   go_ret
   exact ⟨v', rfl, HG1.out, HB.out⟩
  ·
   rw [if_neg (by omega)]
   have hti : (n : Int) ≤ k := by omega
   clear h hb e1 hn hl
   go_enter Tryz.func38, Tryz.ntmps38
   go_wp2_with fail
   go_ret
   exact dints_nil w
end Go.Proofs.YtaholpfikcdhbaaGreat

/- Rig.Count, Rig.Fired. -/
namespace Go.Proofs.YtaholpfikcdhbaaGreat
open Go.RowKit
def countI (g : GGraph) (r : RunP) : List Int := (List.range g.edges.length).map fun d => ((r.rig.strs d).length : Int)
def firedI (g : GGraph) (r : RunP) : List Int := (List.range g.actors.length).map fun t => ((r.rig.tasks t).whole : Int)
theorem range_snoc (f : Nat → Int) (j : Nat) : ivs ((List.range (j + 1)).map f) = ivs ((List.range j).map f) ++ [.int .i64 (f j)] := by
 rw [List.range_succ, List.map_append]
 simp [ivs]
set_option maxRecDepth 100000 in
set_option maxHeartbeats 2000000 in
theorem dFired_any {w : World} {o : Col} {R b : Nat} {g : GGraph} {caps : List Int} {N : Nat → Nat} {qs : Ptrs} {r : RunP} {v : RVals} (h : RigAt w o R b g caps N qs r v) : Calls Tryz.prog 34 #[.pointer (some ⟨b, 0, none⟩)] w (DInts w (firedI g r)) := by
 have hb := h.blk
 unfold rigV at hb
 have c0 := hb.cell 0 _ rfl
 change w.cell? _ = some v.tasks at c0
 obtain ⟨ta, tc, e1⟩ := h.tasks.slice
 rw [List.length_map, List.length_range] at e1
 rw [e1] at c0
 obtain ⟨n, hn⟩ : ∃ n, g.actors.length = n := ⟨_, rfl⟩
 rw [hn] at c0
 have hn32 : n ≤ 32 := by rw [← hn]; exact h.few.1
 obtain ⟨i0, hi, hz0, hz1, hz2⟩ := info_parts info_int
 have HI := Lib.hid hi
 obtain ⟨f, hf⟩ : ∃ f : Nat → Int, (fun t => ((r.rig.tasks t).whole : Int)) = f := ⟨_, rfl⟩
 have HF := Lib.hid hf
 have hXe : firedI g r = (List.range n).map f := by unfold firedI; rw [hn, hf]
 have HXE := Lib.hid hXe
 have HN := Lib.hid hn
 have H := Lib.hid h
 have HE := Lib.hid e1
 clear h hXe e1 hn hb hi hf
 go_enter Tryz.func34, Tryz.ntmps34
 go_wp2_with fail
 go_loopw [3, 13] (fun v i wl => ∃ (j : Nat), j ≤ n ∧ i = .int .i64 j ∧ Below w.heap.size w wl ∧ wl.ownsRow w.heap.size 3 1 v j (ivs ((List.range j).map f))) (fun _ i _ => n - (intOf i).toNat)
 case atStart => exact ⟨0, Nat.zero_le _, rfl, Below.refl _ _, World.ownsRow_nil w w.heap.size 3 1⟩
 case round =>
  obtain ⟨j, hj, rfl, hbl, hO⟩ := hrel
  obtain ⟨sa, sc, rfl⟩ := owns_slice hO
  by_cases hlt : j < n
  ·
   have hlti : (j : Int) < n := by omega
   have hjg : j < g.actors.length := by have := HN.out; omega
   obtain ⟨gt, ft, ct, u1, u2, u3, ucol⟩ := vals_at2 H.out.tasks (k := j) (by simpa using hjg)
   simp only [List.length_map, List.length_range, List.getElem_map, List.getElem_range] at u1 u2 u3
   rw [HE.out, HN.out] at u1
   simp only [Value.slice.injEq] at u1
   obtain ⟨rfl, -, rfl⟩ := u1
   rw [HN.out] at u2
   have hcti : (n : Int) ≤ tc := by omega
   have hT := H.out.task j hjg
   obtain ⟨tb, htb⟩ : ∃ x, v.tb j = x := ⟨_, rfl⟩
   rw [htb] at u3 hT
   have d9 := hT.blk.cell 9 (.int .i64 (f j)) (by rw [← HF.out]; simp [taskV])
   have d3 := cell_later hbl u3
   have d9 := cell_later hbl d9
   unfold ptrV at d3
   have HB := Lib.hid hbl
   have HO := Lib.hid hO
   obtain ⟨X, hX⟩ : ∃ x, f j = x := ⟨_, rfl⟩
   rw [hX] at d9
   have HX := Lib.hid hX
   clear hbl hO u3 ucol u2 hT htb hX
   go_wp2_with (at_builtin; refine stop_here ?_)
   refine go_on ?_
   refine wpList_app rfl _ _ 27 rfl w.heap.size 3 i0 _ 1 8 Tryz.underlying27 HI.out hz0 hz1 hz2 rfl (.slice sa j sc) j _ rfl (HO.out.alloc _) (some ⟨wr.heap.size, 0, none⟩) 1 1 [.int .i64 X] rfl rfl (fun h => by cases h) (news_at (w := wr) (n := wr.heap.size) rfl [.int .i64 X] 3) (by simp [Value.oneCell']) (by unfold maxLen; omega) (grow_ok (by omega)) (by have := HB.out.size; simp; omega) ?_
   intro v7 w7 k1 k20 _ _
   have hb7 := HB.out.trans (below_app HO.out k20 HB.out.size)
   rw [← HX.out, ← range_snoc] at k1
   have K1 := Lib.hid k1
   clear k1 k20
   go_wp2
   go_roundw
   case rel => exact ⟨j + 1, hlt, by go_num, hb7, K1.out⟩
   case measure => simp [intOf]; omega
  ·
   obtain rfl : j = n := by omega
   have HO := Lib.hid hO
   have HB := Lib.hid hbl
   clear hO hbl
   go_wp2
   go_ret
   refine ⟨_, rfl, ?_, HB.out⟩
   rw [HXE.out, List.length_map, List.length_range]
   exact HO.out
set_option maxRecDepth 100000 in
set_option maxHeartbeats 2000000 in
theorem dCount_any {w : World} {o : Col} {R b : Nat} {g : GGraph} {caps : List Int} {N : Nat → Nat} {qs : Ptrs} {r : RunP} {v : RVals} (h : RigAt w o R b g caps N qs r v) (hNN : ∀ d, N d ≤ 27000000000000) : Calls Tryz.prog 33 #[.pointer (some ⟨b, 0, none⟩)] w (DInts w (countI g r)) := by
 have hb := h.blk
 unfold rigV at hb
 have c1 := hb.cell 1 _ rfl
 change w.cell? _ = some v.edges at c1
 obtain ⟨ta, tc, e1⟩ := h.edges.slice
 rw [List.length_map, List.length_range] at e1
 rw [e1] at c1
 obtain ⟨n, hn⟩ : ∃ n, g.edges.length = n := ⟨_, rfl⟩
 rw [hn] at c1
 have hn96 : n ≤ 96 := by rw [← hn]; exact h.few.2.1
 obtain ⟨i0, hi, hz0, hz1, hz2⟩ := info_parts info_int
 have HI := Lib.hid hi
 have hXe : countI g r = (List.range n).map fun d => ((r.rig.strs d).length : Int) := by unfold countI; rw [hn]
 obtain ⟨f, hf⟩ : ∃ f : Nat → Int, (fun d => ((r.rig.strs d).length : Int)) = f := ⟨_, rfl⟩
 rw [hf] at hXe
 have HF := Lib.hid hf
 have HXE := Lib.hid hXe
 have HN := Lib.hid hn
 have H := Lib.hid h
 have HE := Lib.hid e1
 have HNN := Lib.hid hNN
 clear h hXe e1 hn hb hi hf hNN
 go_enter Tryz.func33, Tryz.ntmps33
 go_wp2_with fail
 go_loopw [3, 13] (fun v i wl => ∃ (j : Nat), j ≤ n ∧ i = .int .i64 j ∧ Below w.heap.size w wl ∧ wl.ownsRow w.heap.size 3 1 v j (ivs ((List.range j).map f))) (fun _ i _ => n - (intOf i).toNat)
 case atStart => exact ⟨0, Nat.zero_le _, rfl, Below.refl _ _, World.ownsRow_nil w w.heap.size 3 1⟩
 case round =>
  obtain ⟨j, hj, rfl, hbl, hO⟩ := hrel
  obtain ⟨sa, sc, rfl⟩ := owns_slice hO
  by_cases hlt : j < n
  ·
   have hlti : (j : Int) < n := by omega
   have hjg : j < g.edges.length := by have := HN.out; omega
   obtain ⟨gt, ft, ct, u1, u2, u3, ucol⟩ := vals_at2 H.out.edges (k := j) (by simpa using hjg)
   simp only [List.length_map, List.length_range, List.getElem_map, List.getElem_range] at u1 u2 u3
   rw [HE.out, HN.out] at u1
   simp only [Value.slice.injEq] at u1
   obtain ⟨rfl, -, rfl⟩ := u1
   rw [HN.out] at u2
   have hcti : (n : Int) ≤ tc := by omega
   obtain ⟨qb, hqb⟩ : ∃ x, qs j = x := ⟨_, rfl⟩
   have hQ := H.out.queue j (by omega)
   rw [hqb] at u3 hQ
   have d3 := cell_later hbl u3
   unfold ptrV at d3
   have hby := below_alloc wr (.cells #[.pointer (some ⟨qb, 0, none⟩)] 112)
   have hbl2 := hbl.trans (hby.mono hbl.size)
   have hQ2 := hQ.below hbl2
   obtain ⟨rr, hIQ, -, -⟩ := hQ2
   have hln := HNN.out j
   have HIQ := Lib.hid hIQ
   have HB := Lib.hid hbl2
   have HO := Lib.hid (hO.alloc (.cells #[.pointer (some ⟨qb, 0, none⟩)] 112))
   have HLN := Lib.hid hln
   clear hbl hO u3 ucol u2 hQ hqb hby hbl2 hIQ hln
   go_wp2_with fail
   obtain ⟨wy, hwy⟩ : ∃ x, wr.alloc (.cells #[.pointer (some ⟨qb, 0, none⟩)] 112) = x := ⟨_, rfl⟩
   rw [hwy] at HIQ HB HO ⊢
   clear hwy d3
   refine (iq_len HIQ.out HLN.out).mono ?_
   rintro e w5 ⟨rfl, m, rfl⟩
   have hfj : ((r.rig.strs j).length : Int) = f j := by rw [← HF.out]
   rw [hfj]
   clear hfj
   obtain ⟨X, hX⟩ : ∃ x, f j = x := ⟨_, rfl⟩
   rw [hX]
   have HX := Lib.hid hX
   clear hX
   replace HB := Lib.hid (below_dr (n := m) HB.out)
   replace HO := Lib.hid (show (wy.drewN m).ownsRow w.heap.size 3 1 (.slice sa j sc) j (ivs ((List.range j).map f)) from HO.out)
   go_wp2_with (at_builtin; refine stop_here ?_)
   refine go_on ?_
   refine wpList_app rfl _ _ 27 rfl w.heap.size 3 i0 _ 1 8 Tryz.underlying27 HI.out hz0 hz1 hz2 rfl (.slice sa j sc) j _ rfl (HO.out.alloc _) (some ⟨wy.heap.size, 0, none⟩) 1 1 [.int .i64 X] rfl rfl (fun h => by cases h) (news_at (w := wy.drewN m) (n := wy.heap.size) rfl [.int .i64 X] 3) (by simp [Value.oneCell']) (by unfold maxLen; omega) (grow_ok (by omega)) (by have := HB.out.size; simp at this ⊢; omega) ?_
   intro v7 w7 k1 k20 _ _
   have hb7 := HB.out.trans (below_app HO.out k20 HB.out.size)
   rw [← HX.out, ← range_snoc] at k1
   have K1 := Lib.hid k1
   clear k1 k20
   go_wp2
   go_roundw
   case rel => exact ⟨j + 1, hlt, by go_num, hb7, K1.out⟩
   case measure => simp [intOf]; omega
  ·
   obtain rfl : j = n := by omega
   have HO := Lib.hid hO
   have HB := Lib.hid hbl
   clear hO hbl
   go_wp2
   go_ret
   refine ⟨_, rfl, ?_, HB.out⟩
   rw [HXE.out, List.length_map, List.length_range]
   exact HO.out
end Go.Proofs.YtaholpfikcdhbaaGreat

/- Rig.Feed. -/
namespace Go.Proofs.YtaholpfikcdhbaaGreat
open Go.RowKit
def feedR (g : GGraph) (i : Nat) (l : List Int) (r : RunP) : RunP := ⟨⟨r.rig.tasks, upd r.rig.strs (g.edges.length + i) (r.rig.strs (g.edges.length + i) ++ l)⟩, r.failed⟩
def FeedRet (w : World) (o : Col) (R b : Nat) (g : GGraph) (caps : List Int) (M : Nat) (J : Nat → Nat) (qs : Ptrs) (tb : Nat → Nat) (r : RunP) (i : Nat) (l : List Int) (v : RVals) (e : Ending) (w' : World) : Prop :=
 ∃ o', e = .returned (.int .i64 0) ∧ Turn o o' (MineR R) w w' ∧ RigOk w' o' R b g caps M (upd J i (J i + l.length)) qs tb (feedR g i l r) v
theorem RigOk.fed {w w' : World} {o o' : Col} {R b i : Nat} {g : GGraph} {caps : List Int} {M : Nat} {J : Nat → Nat} {qs : Ptrs} {tb : Nat → Nat} {r : RunP} {v : RVals} {l : List Int} (h : RigOk w o R b g caps M J qs tb r v) (hi : i < g.ins.length) (hf : ∀ x ∈ l, Fits x) (hJ : J i + l.length < 27000000000000)
  (T : Turn o o' (fun x => x = R + 4000 + (g.edges.length + i)) w w') (hQ : QAt w' o' (R + 4000 + (g.edges.length + i)) (qs (g.edges.length + i)) (capD caps (g.edges.length + i)) (r.rig.strs (g.edges.length + i) ++ l) (J i + l.length)) :
  RigOk w' o' R b g caps M (upd J i (J i + l.length)) qs tb (feedR g i l r) v := by
 obtain ⟨f1, f2, f3, f4⟩ := h.mem.few
 have m := h.mem
 refine ⟨⟨m.blk.turn T (by omega), m.tasks.turn T (by omega), m.edges.turn T (by omega), m.inputs.turn T (by omega), m.tapes.turn T (by omega), fun t ht => (m.task t ht).turn T (fun c hc hm => by unfold MineT at hm; omega), fun d hd => ?_, fun d hd hd2 => ?_, m.few⟩, ⟨h.ok.task, fun d z hz => ?_⟩, fun d => ?_, fun k => ?_, h.tbs⟩
 ·
  show QAt w' o' (R + 4000 + d) (qs d) (capD caps d) (upd r.rig.strs (g.edges.length + i) (r.rig.strs (g.edges.length + i) ++ l) d) _
  by_cases e : d = g.edges.length + i
  ·
   subst e
   rw [upd_same, bndD_in hi, upd_same]
   exact hQ
  ·
   rw [upd_other e]
   have hb : bndD g M (upd J i (J i + l.length)) d = bndD g M J d := by
    unfold bndD
    split
    ·
     rw [upd_other (by omega)]
    ·
     rfl
   rw [hb]
   exact (m.queue d hd).turn T (by omega)
 ·
  show Blk _ _ _ _ _ _ ∧ Own _ _ _ _ _ _ (upd r.rig.strs (g.edges.length + i) (r.rig.strs (g.edges.length + i) ++ l) d).length (ivs (upd r.rig.strs (g.edges.length + i) (r.rig.strs (g.edges.length + i) ++ l) d))
  rw [upd_other (by omega)]
  obtain ⟨k1, k2⟩ := m.tape d hd hd2
  exact ⟨k1.turn T (by omega), k2.turn T (by omega)⟩
 ·
  change z ∈ upd r.rig.strs (g.edges.length + i) (r.rig.strs (g.edges.length + i) ++ l) d at hz
  by_cases e : d = g.edges.length + i
  ·
   subst e
   rw [upd_same] at hz
   rcases List.mem_append.1 hz with hz | hz
   ·
    exact h.ok.fits _ z hz
   ·
    exact hf z hz
  ·
   rw [upd_other e] at hz
   exact h.ok.fits d z hz
 ·
  show (upd r.rig.strs (g.edges.length + i) (r.rig.strs (g.edges.length + i) ++ l) d).length ≤ _
  by_cases e : d = g.edges.length + i
  ·
   subst e
   have := h.len (g.edges.length + i)
   rw [bndD_in hi] at this
   rw [upd_same, bndD_in hi, upd_same, List.length_append]
   omega
  ·
   rw [upd_other e]
   have hb : bndD g M (upd J i (J i + l.length)) d = bndD g M J d := by
    unfold bndD
    split
    ·
     rw [upd_other (by omega)]
    ·
     rfl
   rw [hb]
   exact h.len d
 ·
  by_cases e : k = i
  ·
   subst e
   rw [upd_same]
   exact hJ
  ·
   rw [upd_other e]
   exact h.ins k
set_option maxRecDepth 100000 in
set_option maxHeartbeats 4000000 in
theorem dFeed_ok {w : World} {o : Col} {R b c i : Nat} {g : GGraph} {caps : List Int} {M : Nat} {J : Nat → Nat} {qs : Ptrs} {tb : Nat → Nat} {r : RunP} {v : RVals} {ao : Option Addr} {n cap : Nat} {l : List Int} (h : RigOk w o R b g caps M J qs tb r v) (hG : GOk g caps) (hi : i < g.ins.length) (hl : Ints w o c (.slice ao n cap) l) (hc : ¬ MineR R c) (hf : ∀ x ∈ l, Fits x) (hJ : J i + l.length < 27000000000000) :
  Calls Tryz.prog 31 #[.pointer (some ⟨b, 0, none⟩), .int .i64 (i : Int), .slice ao n cap] w (FeedRet w o R b g caps M J qs tb r i l v) := by
 obtain rfl : n = l.length := Ints.len hl
 have hb := h.mem.blk
 unfold rigV at hb
 have c2 := hb.cell 2 _ rfl
 change w.cell? _ = some v.inputs at c2
 obtain ⟨tg, ft, ct, u1, u2, u3⟩ := vals_at h.mem.inputs (k := i) (by simpa using hi)
 simp only [List.length_map, List.length_range, List.getElem_map, List.getElem_range] at u1 u2 u3
 rw [u1] at c2
 obtain ⟨qb, hqb⟩ : ∃ x, qs (g.edges.length + i) = x := ⟨_, rfl⟩
 rw [hqb] at u3
 unfold ptrV at u3
 obtain ⟨nI, hnI⟩ : ∃ x, g.ins.length = x := ⟨_, rfl⟩
 rw [hnI] at c2 u2
 have hnI2 : i < nI := by omega
 have q1 : ¬ (i : Int) < 0 := by omega
 have q2 : ¬ (nI : Int) ≤ i := by omega
 have q3 : (i : Int) < nI := by omega
 have q4 : (nI : Int) ≤ ct := by omega
 have hQ := h.mem.queue (g.edges.length + i) (by omega)
 rw [bndD_in hi, hqb] at hQ
 have hlen := h.len (g.edges.length + i)
 rw [bndD_in hi] at hlen
 have hcd : capD caps (g.edges.length + i) = 9223372036854775807 := by
  unfold capD
  rw [List.getElem?_eq_none (by have := hG.caps; omega)]
  rfl
 obtain ⟨A, hA⟩ : ∃ x, r.rig.strs (g.edges.length + i) = x := ⟨_, rfl⟩
 obtain ⟨N, hN⟩ : ∃ x, J i = x := ⟨_, rfl⟩
 rw [hA, hN] at hQ hlen
 have hki := And.intro hb.2 (And.intro h.mem.inputs h.mem.few)
 have HQ := Lib.hid (show QAt w o (R + 4000 + (g.edges.length + i)) qb (capD caps (g.edges.length + i)) (A ++ l.take 0) (N + 0) by simpa using hQ)
 have HS := Lib.hid (And.intro hA (And.intro hN (And.intro hqb (And.intro hcd hlen))))
 have H := Lib.hid h
 have HB := Lib.hid hb
 have HL := Lib.hid hl
 have HC := Lib.hid hc
 have HFI := Lib.hid hf
 have HI := Lib.hid hi
 have HU := Lib.hid u1
 have HJ := Lib.hid hJ
 have hlm : l.length ≤ 27000000000000 := by omega
 obtain ⟨f1, f2, f3, f4⟩ := h.mem.few
 have HFW := Lib.hid (And.intro f2 f3)
 clear h hG hb hl hc hf hi hQ hA hN hqb hcd hlen u1 hnI hJ hki f1 f2 f3 f4 hnI2 u2
 go_enter Tryz.func31, Tryz.ntmps31
 go_wp2_with fail
 go_loopw [24] (fun x wl => ∃ (j : Nat) (q : Col), j ≤ l.length ∧ x = .int .i64 j ∧ Turn o q (fun k => k = R + 4000 + (g.edges.length + i)) w wl ∧ QAt wl q (R + 4000 + (g.edges.length + i)) qb (capD caps (g.edges.length + i)) (A ++ l.take j) (N + j)) (fun x _ => l.length - (intOf x).toNat)
 case atStart => exact ⟨0, o, Nat.zero_le _, rfl, Turn.refl _ _ _, HQ.out⟩
 case round =>
  obtain ⟨j, q, hj, rfl, T, hQ⟩ := hrel
  have HT := Lib.hid T
  have HQj := Lib.hid hQ
  clear T hQ
  by_cases hlt : j < l.length
  ·
   have hlti : (j : Int) < l.length := by omega
   obtain ⟨lb, lo, rfl, -, hcp, -, -, hcl⟩ := Ints.at (HL.out.turn HT.out (fun e => HC.out (by unfold MineR; have := HFW.out; have := HI.out; omega))) (by omega)
   have hcpi : (l.length : Int) ≤ cap := by omega
   have cj := hcl j hlt
   rw [List.getElem?_eq_getElem hlt] at cj
   change wr.cell? _ = some (iv l[j]) at cj
   obtain ⟨p, hp⟩ : ∃ p, l[j] = p := ⟨_, rfl⟩
   rw [hp] at cj
   have HP := Lib.hid hp
   have c2j := (HB.out.turn HT.out (by omega)).cell 2 _ rfl
   change wr.cell? _ = some v.inputs at c2j
   rw [HU.out] at c2j
   obtain ⟨-, -, -, hcd, hlen⟩ := HS.out
   have u3j : wr.cell? ⟨tg, ft + i, none⟩ = some (.pointer (some ⟨qb, 0, none⟩)) := by
    obtain ⟨tg', ft', ct', v1, v2, v3⟩ := vals_at (H.out.mem.inputs.turn HT.out (by have := HFW.out; omega)) (k := i) (by simpa using HI.out)
    rw [HU.out] at v1
    simp only [Value.slice.injEq, Option.some.injEq, Addr.mk.injEq] at v1
    obtain ⟨⟨rfl, rfl, -⟩, -, -⟩ := v1
    simp only [List.getElem_map, List.getElem_range] at v3
    rw [HS.out.2.2.1] at v3
    exact v3
   clear hcl hp hcp
   have hbk := HB.out.turn HT.out (by omega)
   have hgl : (((A ++ l.take j).length : Nat) : Int) < capD caps (g.edges.length + i) := by
    rw [hcd, List.length_append, List.length_take]
    have := HJ.out
    have := HS.out.2.1
    omega
   have hNj : N + j < 27000000000000 := by have := HJ.out; have := HS.out.2.1; omega
   have HGL := Lib.hid hgl
   have HNJ := Lib.hid hNj
   clear hcd hlen hgl hNj hbk
   go_wp2_with fail
   refine (cgive_any p HQj.out HNJ.out HGL.out).mono ?_
   rintro e w1 ⟨q1, rfl, T1, Q1⟩
   have HT1 := Lib.hid (HT.out.trans T1 (fun _ h => h))
   have hta : A ++ l.take j ++ [p] = A ++ l.take (j + 1) := by
    rw [List.append_assoc, List.take_succ_eq_append_getElem hlt, HP.out]
   rw [hta] at Q1
   have HQ1 := Lib.hid Q1
   clear T1 Q1 hta c2j u3j cj
   go_wp2
   go_roundw
   case rel => exact ⟨j + 1, _, hlt, by go_num, HT1.out, HQ1.out⟩
   case measure => simp [intOf]; omega
  ·
   obtain rfl : j = l.length := by omega
   have hlti : ¬ ((l.length : Int) < l.length) := by omega
   go_wp2_with fail
   go_ret
   obtain ⟨hA, hN, hqb, hcd, hlen⟩ := HS.out
   have hQ := HQj.out
   rw [List.take_length, ← hA, ← hN, ← hqb] at hQ
   exact ⟨q, rfl, HT.out.mono (fun c hc => by unfold MineR; have := HFW.out; have := HI.out; omega), H.out.fed HI.out HFI.out HJ.out HT.out hQ⟩
end Go.Proofs.YtaholpfikcdhbaaGreat

/- A new rig, plainly; the chapter's small graph. No function in sight. -/
namespace Go.Proofs.YtaholpfikcdhbaaGreat
def keepT (g : GGraph) (t : Nat) : List Int := match g.actors[t]? with | some a => keep0 a.tag a.params | none => []
def newTask (g : GGraph) (t : Nat) : TaskP := ⟨keepT g t, 0, List.replicate (ratesI g t).length [], [], 0, false, 0⟩
def newRig (g : GGraph) : RigP := ⟨newTask g, fun d => if d < g.edges.length then (edgeAt g d).start else []⟩
def newE (g : GGraph) (caps : List Int) : Int := if checkE g ≠ 0 then checkE g else if caps.length ≠ g.edges.length then 240 else if caps.any (fun c => decide (c < 0)) then 240 else 0
def lineG : GGraph := ⟨{ data := #[103] }, [⟨{ data := #[97] }, 10, [1, 1]⟩, ⟨{ data := #[98] }, 6, [1]⟩, ⟨{ data := #[99] }, 8, []⟩], [⟨0, 0, 1, 0, []⟩, ⟨1, 0, 2, 0, []⟩], [], [⟨{ data := #[121] }, 2, 0⟩]⟩
set_option maxRecDepth 100000 in
theorem line_run : decide (10 < (roundsP lineG [1, 1] 10 ⟨newRig lineG, none⟩).2) = true ∧ outS lineG (roundsP lineG [1, 1] 10 ⟨newRig lineG, none⟩).1.rig 0 = [1, 3] := by constructor <;> kernel_rfl
theorem line_fail : (roundsP lineG [1, 1] 10 ⟨newRig lineG, none⟩).1.failed = none := by kernel_rfl
theorem line_ready : (readyL lineG [1, 1] (roundsP lineG [1, 1] 10 ⟨newRig lineG, none⟩).1).length = 2 := by kernel_rfl
theorem line_check : newE lineG [1, 1] = 0 := by kernel_rfl
end Go.Proofs.YtaholpfikcdhbaaGreat
