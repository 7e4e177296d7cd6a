/- The checker's name. -/
import Derived.Test.YtbmbfifempkhgaaEmitMakesZ2
import Derived.Test.YtbmbfifempkhgaaEmitMakesZ1
namespace Go.Proofs.Ytbmbfifempkhgaa
open Go.RowKit
open Go.Maps (Keyed IsMap Tidy)
theorem lt_max {n m : Nat} (h : n ≤ m) (hm : m ≤ 1000000) : n < maxLen := by unfold maxLen; omega
theorem size_max {n : Nat} (h : n ≤ 4611686018427387904) : n ≤ maxLen := by unfold maxLen; omega
set_option maxRecDepth 100000 in
set_option maxHeartbeats 1000000 in
theorem gname_any (w : World) (o : Col) (C B : Nat) (X : ChkV) (k : Chk) (s : ByteArray) (hs : s.size ≤ 4611686018427387904) (hk : k.seen.length ≤ 1000000) (h : ChkAt w o C B X k) :
  Calls Try.prog 111 #[.pointer (some ⟨C, 0, none⟩), .string s] w fun e w' => e = .returned (.int .i64 (nameE k.seen s)) ∧ ∃ o', Turn o o' (fun x => x = 2) w w' ∧ (nameE k.seen s = 0 → ChkAt w' o' C B X ⟨k.seen ++ [s], k.ins, k.outs⟩) := by
 obtain ⟨N, hN⟩ : ∃ N, nameE k.seen s = N := ⟨_, rfl⟩
 rw [hN]
 have HN := Lib.hid hN
 have HS := Lib.hid hs
 have HK := Lib.hid hk
 have HC := Lib.hid h
 clear hN hs hk h
 go_enter Try.func111, Try.ntmps111
 go_wp2_with fail
 refine (name_any _ s HS.out).mono ?_
 rintro e w1 ⟨rfl, hb1⟩
 have HB1 := Lib.hid hb1
 have HC1 := Lib.hid (HC.out.turn (Turn.of_below o 0 hb1) (fun _ _ h => h))
 obtain ⟨x, hx⟩ : ∃ x, nameP s = x := ⟨_, rfl⟩
 rw [hx]
 have HX := Lib.hid hx
 clear hx hb1 HC
 cases x with
 | false =>
  have e : N = 82 := by rw [← HN.out, nameE, HX.out]; rfl
  subst e
  go_wp2
  go_ret
  exact ⟨rfl, _, (Turn.of_below o 0 HB1.out).mono (fun _ h => h.elim), fun h => by cases h⟩
 | true =>
  obtain ⟨D, n, gI, gO, h1, h2, h3, h4, h5, h6, h7⟩ := HC1.out.st
  have q5 := h1.cell 5 (.map (some B)) rfl
  have H1 := Lib.hid h1
  have H2 := Lib.hid h2
  have H4 := Lib.hid h4
  have H5 := Lib.hid h5
  have H6 := Lib.hid h6
  have H7 := Lib.hid h7
  have H3 := Lib.hid h3
  clear h1 h2 h3 h4 h5 h6 h7
  have hml : s.size ≤ maxLen := size_max HS.out
  go_wp2_with (at_lookup; refine stop_here ?_)
  refine go_on ?_
  refine wpList_lookup_own_int _ rfl _ _ 176 rfl 9 3 .i64 smap_law Try.underlying176 Try.underlying3 (int_zero _) B n D rfl H2.out _ _ rfl (WideMaps.keyOf_string_mk Try.underlying9 hml) ?_
  intro c hat hwc
  have hc := H4.out.2 s
  rw [hat] at hc
  obtain ⟨y, hy⟩ : ∃ y, k.seen.any (fun x => decide (x = s)) = y := ⟨_, rfl⟩
  rw [hy] at hc
  have HY := Lib.hid hy
  clear hat hwc hy
  cases y with
  | true =>
   obtain rfl : c = 1 := by injection hc with h; injection h with _ h
   have e : N = 83 := by rw [← HN.out, nameE, HX.out, HY.out]; rfl
   subst e
   clear hc
   go_wp2
   go_ret
   exact ⟨rfl, _, (Turn.of_below o 0 HB1.out).mono (fun _ h => h.elim), fun h => by cases h⟩
  | false =>
   obtain rfl : c = 0 := by injection hc with h; injection h with _ h
   have e : N = 0 := by rw [← HN.out, nameE, HX.out, HY.out]; rfl
   subst e
   clear hc
   go_wp2_with (at_mapUpdate; refine stop_here ?_)
   refine go_on ?_
   refine wpList_mapUpdate_own _ rfl _ _ _ 176 rfl 9 3 smap_law Try.underlying176 _ B n D rfl H2.out (lt_max H5.out HK.out) _ _ _ rfl rfl (WideMaps.keyOf_string_mk Try.underlying9 hml) _ [] (plainElem_int Try.underlying3 (by decide)) ?_
   intro w2 hown2 hg2
   have T2 : Turn (ext o w.heap.size 0) (ext (ext o w.heap.size 0) w1.heap.size 0) (fun x => x = 2) w1 w2 := Turn.of_mods _ 0 ((Mods.refl (fun b => b = B) w1).grown hg2 (fun b hb _ => (Option.some.inj hb).symm)) (fun b _ e => by rw [e]; exact H3.out)
   have HT := Lib.hid (((Turn.of_below o 0 HB1.out).mono (D := fun x => x = 2) (fun _ h => h.elim)).trans T2 (fun x e => e))
   have hB2 : ext (ext o w.heap.size 0) w1.heap.size 0 B = 2 := (ext_old H2.out.lt).trans H3.out
   have HN2 : Hid (ChkAt w2 (ext (ext o w.heap.size 0) w1.heap.size 0) C B X ⟨k.seen ++ [s], k.ins, k.outs⟩) := Lib.hid ⟨_, _, gI, gO, H1.out.turn T2 (by decide), hown2, hB2, seen_next H4.out s, by have := H5.out; simp; omega, H6.out.turn T2 (by decide) (by decide), H7.out.turn T2 (by decide) (by decide)⟩
   clear hown2 hg2 T2 hB2
   go_wp2
   go_ret
   exact ⟨rfl, _, HT.out, HN2.out⟩
end Go.Proofs.Ytbmbfifempkhgaa

/- The checker's ports: inputs, or outputs. -/
namespace Go.Proofs.Ytbmbfifempkhgaa
open Go.RowKit
def SpotRet (E : Int) (e : Ending) : Prop := ∃ a b c : Int, e = .returned (.tuple #[.int .i64 E, .agg #[.int .u8 a, .int .i64 b, .int .i64 c]])
def ChkRet (w : World) (o : Col) (C B : Nat) (X : ChkV) (E : Int) (k : Chk) (e : Ending) (w' : World) : Prop := SpotRet E e ∧ ∃ o', Turn o o' ChkC w w' ∧ (E = 0 → ChkAt w' o' C B X k)
def ChkP (x : Nat) : Prop := x = 2 ∨ x = 4 ∨ x = 6
def ChkRetP (w : World) (o : Col) (C B : Nat) (X : ChkV) (E : Int) (k : Chk) (e : Ending) (w' : World) : Prop := SpotRet E e ∧ ∃ o', Turn o o' ChkP w w' ∧ (E = 0 → ChkAt w' o' C B X k)
theorem Turn.late {o o1 : Col} {C : Nat → Prop} {w w1 w2 : World} (h : Turn o o1 C w w1) (c : Nat) (m : Mods (fun k => w.heap.size ≤ k) w1 w2) : Turn o (ext o1 w1.heap.size c) C w w2 := by
 refine ⟨h.mods.trans m (fun _ _ h => h) (fun n hn f => by omega), fun k hk => ?_⟩
 rw [ext_old (Nat.lt_of_lt_of_le hk h.size)]
 exact h.same k hk
theorem spot_set {w : World} {o : Col} {R : Nat} {a b c : Int} (h : Blk w o 7 R 140 #[.int .u8 0, .int .i64 0, .int .i64 0]) :
  (((w.setCell ⟨R, 0, none⟩ (.int .u8 a)).setCell ⟨R, 1, none⟩ (.int .i64 b)).setCell ⟨R, 2, none⟩ (.int .i64 c)).heap[R]? = some (.cells #[.int .u8 a, .int .i64 b, .int .i64 c] 140 (0, 0)) :=
 block_setCell (block_setCell (block_setCell h.1 0 (.int .u8 a)) 1 (.int .i64 b)) 2 (.int .i64 c)
theorem spot_mods {w : World} {N R : Nat} (h : N ≤ R) (a b c : Value) : Mods (fun k => N ≤ k) w (((w.setCell ⟨R, 0, none⟩ a).setCell ⟨R, 1, none⟩ b).setCell ⟨R, 2, none⟩ c) :=
 (((Mods.refl _ w).setCell (p := ⟨R, 0, none⟩) (fun _ => h) a).setCell (p := ⟨R, 1, none⟩) (fun _ => h) b).setCell (p := ⟨R, 2, none⟩) (fun _ => h) c
theorem spot_only (w : World) (R : Nat) (a b c : Value) : Mods (fun k => k = R) w (((w.setCell ⟨R, 0, none⟩ a).setCell ⟨R, 1, none⟩ b).setCell ⟨R, 2, none⟩ c) :=
 (((Mods.refl (fun k => k = R) w).setCell (p := ⟨R, 0, none⟩) (fun _ => rfl) a).setCell (p := ⟨R, 1, none⟩) (fun _ => rfl) b).setCell (p := ⟨R, 2, none⟩) (fun _ => rfl) c
theorem ChkAt.spot {w : World} {q : Col} {C B R : Nat} {X : ChkV} {k : Chk} {t : TypeId} {cs : Array Value} (h : ChkAt w q C B X k) (hR : Blk w q 7 R t cs) (a b c : Value) : ChkAt (((w.setCell ⟨R, 0, none⟩ a).setCell ⟨R, 1, none⟩ b).setCell ⟨R, 2, none⟩ c) (ext q w.heap.size 7) C B X k :=
 h.turn (Turn.of_mods (C := fun x => x = 7) q 7 (spot_only w R a b c) (fun b _ e => by subst e; exact hR.2)) (fun x hx e => by subst e; exact absurd hx (by unfold ChkC; omega))
theorem portsE_cons {seen : List ByteArray} {side : List (List Bool)} {l : List GPort} {j : Nat} (h : j < l.length) : portsE seen side (l.drop j) = if portE seen side l[j] ≠ 0 then portE seen side l[j] else portsE (seen ++ [l[j].name]) (takeS side l[j].actor l[j].port) (l.drop (j + 1)) := by
 rw [List.drop_eq_getElem_cons h, portsE]
theorem portsS_snoc {side : List (List Bool)} {l : List GPort} {j : Nat} (h : j < l.length) : portsS side (l.take (j + 1)) = takeS (portsS side (l.take j)) l[j].actor l[j].port := by
 rw [List.take_succ_eq_append_getElem h, portsS, List.foldl_append]; rfl
theorem portsN_snoc {seen : List ByteArray} {l : List GPort} {j : Nat} (h : j < l.length) : portsN seen (l.take (j + 1)) = portsN seen (l.take j) ++ [l[j].name] := by
 rw [List.take_succ_eq_append_getElem h, portsN, portsN, List.map_append, List.append_assoc]; rfl
theorem spot_new (w : World) (o : Col) (c : Nat) : Blk (w.alloc (.cells #[.int .u8 0, .int .i64 0, .int .i64 0] 140)) (ext o w.heap.size c) c w.heap.size 140 #[.int .u8 0, .int .i64 0, .int .i64 0] := ⟨heap_alloc_new w _, ext_new (Nat.le_refl _)⟩
theorem port_split {seen : List ByteArray} {side : List (List Bool)} {p : GPort} {r : Int} : (if portE seen side p ≠ 0 then portE seen side p else r) = if nameE seen p.name ≠ 0 then nameE seen p.name else if takeE side p.actor p.port ≠ 0 then takeE side p.actor p.port else r := by
 unfold portE
 by_cases h : nameE seen p.name = 0
 ·
  simp [h]
 ·
  simp [h]
theorem portsN_len {seen : List ByteArray} {l : List GPort} {j : Nat} (hj : j ≤ l.length) (h : seen.length + l.length ≤ 1000000) : (portsN seen (l.take j)).length ≤ 1000000 := by
 simp [portsN]; omega
set_option maxRecDepth 100000 in
set_option maxHeartbeats 2000000 in
theorem gports_in (w0 w : World) (o : Col) (C B : Nat) (X : ChkV) (k : Chk) (v : Value) (l : List GPort) (kd en : Int) (hv : Recs w0 3 PortR v l) (K : Kept w0.heap.size o w0 w) (hn : k.seen.length + l.length ≤ 1000000) (hs : ∀ p ∈ l, p.name.size ≤ 4611686018427387904) (h : ChkAt w o C B X k) :
  Calls Try.prog 99 #[.pointer (some ⟨C, 0, none⟩), v, X.vI, .int .u8 kd, .int .i64 en] w (ChkRetP w o C B X (portsE k.seen k.ins l) ⟨portsN k.seen l, portsS k.ins l, k.outs⟩) := by
 obtain ⟨ao, cap, rfl⟩ := hv.slice
 obtain ⟨E, hE⟩ : ∃ E, portsE k.seen k.ins l = E := ⟨_, rfl⟩
 rw [hE]
 have HE := Lib.hid (show portsE (portsN k.seen (l.take 0)) (portsS k.ins (l.take 0)) (l.drop 0) = E by simpa [portsN, portsS] using hE)
 have HV := Lib.hid hv
 have HN := Lib.hid hn
 have HSZ := Lib.hid hs
 have hbR := below_alloc w (.cells #[.int .u8 0, .int .i64 0, .int .i64 0] 140)
 have HT0 := Lib.hid ((Turn.of_below o 7 hbR).mono (D := ChkP) (fun _ h => h.elim))
 have HK0 := Lib.hid (K.of_below 7 hbR)
 have HC0 : Hid (ChkAt _ _ C B X ⟨portsN k.seen (l.take 0), portsS k.ins (l.take 0), k.outs⟩) := Lib.hid (by simpa [portsN, portsS] using h.below 7 hbR)
 have HR0 := Lib.hid (spot_new w o 7)
 clear hE hv hn hs K h hbR
 go_enter Try.func99, Try.ntmps99
 go_wp2_with fail
 obtain ⟨R, hR⟩ : ∃ R, w.heap.size = R := ⟨_, rfl⟩
 have HRE := Lib.hid hR
 rw [hR] at HR0 HT0 HK0 HC0 ⊢
 clear hR
 go_loopw [18] (fun i wr => ∃ (j : Nat) (q : Col), j ≤ l.length ∧ i = .int .i64 j ∧ Kept w0.heap.size q w0 wr ∧ Turn o q ChkP w wr ∧ Blk wr q 7 R 140 #[.int .u8 0, .int .i64 0, .int .i64 0] ∧ ChkAt wr q C B X ⟨portsN k.seen (l.take j), portsS k.ins (l.take j), k.outs⟩ ∧ portsE (portsN k.seen (l.take j)) (portsS k.ins (l.take j)) (l.drop j) = E) (fun i _ => l.length - (intOf i).toNat)
 case atStart => exact ⟨0, _, Nat.zero_le _, rfl, HK0.out, HT0.out, HR0.out, HC0.out, HE.out⟩
 case round =>
  clear HK0 HT0 HR0 HC0 HE
  obtain ⟨j, q, hj, rfl, hK, hT, hR, hC, hE⟩ := hrel
  have HK := Lib.hid hK
  have HT := Lib.hid hT
  have HR := Lib.hid hR
  have HC := Lib.hid hC
  have HE := Lib.hid hE
  clear hK hT hR hC hE
  by_cases hlt : j < l.length
  ·
   have hlti : (j : Int) < l.length := by omega
   obtain ⟨b0, off, rfl, hcap, hb0, hrec⟩ := (HV.out.below port_steady HK.out.below).at (by omega)
   obtain ⟨cs, hcs, hPR, hcl⟩ := hrec j hlt
   obtain rfl := hPR
   have c0 := hcl 0 (by omega)
   have c1 := hcl 1 (by omega)
   have c2 := hcl 2 (by omega)
   simp at c0 c1 c2
   have hcapi : (l.length : Int) ≤ cap := by omega
   clear hcl hcs hrec
   have hEc := HE.out
   rw [portsE_cons hlt] at hEc
   have HEC := Lib.hid hEc
   have HSn := Lib.hid (portsS_snoc (side := k.ins) hlt)
   have HNn := Lib.hid (portsN_snoc (seen := k.seen) hlt)
   have hpz := HSZ.out l[j] (List.getElem_mem hlt)
   generalize l[j] = p at *
   clear hEc
   rw [port_split] at HEC
   have hsl := portsN_len hj HN.out
   obtain ⟨sn, hsn⟩ : ∃ x, portsN k.seen (l.take j) = x := ⟨_, rfl⟩
   obtain ⟨sd, hsd⟩ : ∃ x, portsS k.ins (l.take j) = x := ⟨_, rfl⟩
   rw [hsn, hsd] at HEC HC
   rw [hsn] at HNn hsl
   rw [hsd] at HSn
   clear hsn hsd HE
   have hbX := below_alloc wr (.cells #[.string p.name, .int .i64 p.actor, .int .i64 p.port] 65)
   have hX : Blk (wr.alloc (.cells #[.string p.name, .int .i64 p.actor, .int .i64 p.port] 65)) (ext q wr.heap.size 8) 8 wr.heap.size 65 #[.string p.name, .int .i64 p.actor, .int .i64 p.port] := ⟨heap_alloc_new wr _, ext_new (Nat.le_refl _)⟩
   have hTX := (Turn.of_below q 8 hbX).mono (D := ChkP) (fun _ h => h.elim)
   have HK2 := Lib.hid (HK.out.of_below 8 hbX)
   have HT2 := Lib.hid (HT.out.trans hTX (fun _ h => h))
   have HR2 := Lib.hid (HR.out.turn (Turn.of_below q 8 hbX) (fun h => h))
   have HC2 := Lib.hid (HC.out.below 8 hbX)
   have HX := Lib.hid hX
   clear hbX hX hTX HK HT HR HC
   go_wp2_with fail
   refine (gname_any _ (ext q wr.heap.size 8) C B X ⟨sn, sd, k.outs⟩ p.name hpz hsl HC2.out).mono ?_
   rintro e w4 ⟨rfl, o4, T40, hC4⟩
   have T4 := T40.mono (D := ChkP) (fun x e => .inl e)
   have HK4 := Lib.hid (HK2.out.turn T4 (by unfold ChkP; omega))
   have HT4 := Lib.hid (HT2.out.trans T4 (fun _ h => h))
   have HR4 := Lib.hid (HR2.out.turn T4 (by unfold ChkP; omega))
   have HX4 := Lib.hid (HX.out.turn T4 (by unfold ChkP; omega))
   have HC4 := Lib.hid hC4
   clear T40 T4 hC4 HK2 HT2 HR2 HC2 HX
   obtain ⟨ne, hne⟩ : ∃ x, nameE sn p.name = x := ⟨_, rfl⟩
   rw [show nameE (Chk.seen ⟨sn, sd, k.outs⟩) p.name = ne from hne] at HC4 ⊢
   rw [hne] at HEC
   clear hne
   by_cases h0 : ne = 0
   ·
    subst h0
    have hC5 := HC4.out rfl
    obtain ⟨gI, hSI⟩ := hC5.ins
    have HC5 := Lib.hid hC5
    have HSI := Lib.hid hSI
    have x1 := HX4.out.cell 1 _ rfl
    have x2 := HX4.out.cell 2 _ rfl
    rw [if_neg (by simp)] at HEC
    clear hC5 hSI HC4
    go_wp2_with fail
    refine (gtake_any _ o4 3 4 X.vI sd gI p.actor p.port (by decide) HSI.out).mono ?_
    rintro e w5 ⟨rfl, T5, hS5⟩
    have HK5 := Lib.hid (HK4.out.turn T5 (by decide))
    have HT5 := Lib.hid (HT4.out.trans T5 (fun x e => by subst e; unfold ChkP; omega))
    have HR5 := Lib.hid (HR4.out.turn T5 (by decide))
    have HC6 := Lib.hid (fun (e : takeE sd p.actor p.port = 0) => HC5.out.tookI T5 (hS5 e))
    clear T5 hS5 HK4 HT4 HR4 HX4 HC5 HSI x1 x2
    obtain ⟨te, hte⟩ : ∃ x, takeE sd p.actor p.port = x := ⟨_, rfl⟩
    rw [hte] at HEC HC6 ⊢
    clear hte
    by_cases h0 : te = 0
    ·
     subst h0
     have HC7 := Lib.hid (HC6.out rfl)
     rw [if_neg (by simp)] at HEC
     have HE2 : Hid (portsE (portsN k.seen (l.take (j + 1))) (portsS k.ins (l.take (j + 1))) (l.drop (j + 1)) = E) := Lib.hid (by rw [HNn.out, HSn.out]; exact HEC.out)
     have HC8 : Hid (ChkAt w5 o4 C B X ⟨portsN k.seen (l.take (j + 1)), portsS k.ins (l.take (j + 1)), k.outs⟩) := Lib.hid (by rw [HNn.out, HSn.out]; exact HC7.out)
     have hnn := HN.out
     clear HC6 HC7 HEC
     go_wp2
     go_roundw
     case rel => exact ⟨j + 1, o4, hlt, by go_num, HK5.out, HT5.out, HR5.out, HC8.out, HE2.out⟩
     case measure => simp [intOf]; omega
    ·
     have e : E = te := by rw [← HEC.out, if_pos h0]
     subst e
     have z0 := HR5.out.cell 0 _ rfl
     have z1 := HR5.out.cell 1 _ rfl
     have z2 := HR5.out.cell 2 _ rfl
     have f0 := HR5.out.frozen 0
     have f1 := HR5.out.frozen 1
     have f2 := HR5.out.frozen 2
     go_wp2
     refine bodyPost_ret_by (results_tmp_row rfl _ _ _ _ _ _ _ rfl (spot_set HR5.out) Try.underlying140 rfl (by kernel_rfl)) rfl ?_
     exact ⟨⟨_, _, _, rfl⟩, _, HT5.out.late 7 (spot_mods (by have := HRE.out; omega) _ _ _), fun h => absurd h h0⟩
   ·
    have e : E = ne := by rw [← HEC.out, if_pos h0]
    subst e
    have z0 := HR4.out.cell 0 _ rfl
    have z1 := HR4.out.cell 1 _ rfl
    have z2 := HR4.out.cell 2 _ rfl
    have f0 := HR4.out.frozen 0
    have f1 := HR4.out.frozen 1
    have f2 := HR4.out.frozen 2
    go_wp2
    refine bodyPost_ret_by (results_tmp_row rfl _ _ _ _ _ _ _ rfl (spot_set HR4.out) Try.underlying140 rfl (by kernel_rfl)) rfl ?_
    exact ⟨⟨_, _, _, rfl⟩, _, HT4.out.late 7 (spot_mods (by have := HRE.out; omega) _ _ _), fun h => absurd h h0⟩
  ·
   obtain rfl : j = l.length := by omega
   have hfin := HE.out
   rw [List.drop_length, List.take_length] at hfin
   obtain rfl : E = 0 := hfin.symm
   have hC9 := HC.out
   rw [List.take_length, ] at hC9
   have HC9 := Lib.hid hC9
   clear hfin hC9
   have z0 := HR.out.cell 0 _ rfl
   have z1 := HR.out.cell 1 _ rfl
   have z2 := HR.out.cell 2 _ rfl
   have f0 := HR.out.frozen 0
   have f1 := HR.out.frozen 1
   have f2 := HR.out.frozen 2
   go_wp2
   refine bodyPost_ret_by (results_tmp_row rfl _ _ _ _ _ _ _ rfl (spot_set HR.out) Try.underlying140 rfl (by kernel_rfl)) rfl ?_
   exact ⟨⟨_, _, _, rfl⟩, _, HT.out.late 7 (spot_mods (by have := HRE.out; omega) _ _ _), fun _ => HC9.out.spot HR.out _ _ _⟩
end Go.Proofs.Ytbmbfifempkhgaa

/- A row more on a side of the checker. -/
namespace Go.Proofs.Ytbmbfifempkhgaa
open Go.RowKit
theorem info_bool : (Try.prog.info? 4).map (fun i => (i.zero, i.size, i.bytes)) = some (some (.bool false), 1, 1) := by kernel_rfl
theorem info_bools : (Try.prog.info? 192).map (fun i => (i.zero, i.size, i.bytes)) = some (some (.slice none 0 0), 1, 24) := by kernel_rfl
theorem made_bools (n : Nat) : madeCells (Value.cells (.bool false)) (n * 1) = (bvs (List.replicate n false)).toArray := by
 rw [Nat.mul_one]
 apply Array.toList_inj.1
 simp [madeCells, Value.cells, bvs, Nat.mod_one, List.map_const']
theorem make_bools (w : World) (n : Nat) (h : n ≤ 1000) : (Instr.makeSlice 192 (.int .i64 (n : Int)) (.int .i64 (n : Int))).run Try.prog w = .ok (.slice (some ⟨w.heap.size, 0, none⟩) n n) (w.alloc (.cells (bvs (List.replicate n false)).toArray 4)) := by
 obtain ⟨i0, hi, hz0, hz1, hz2⟩ := info_parts info_bool
 have hr := run_make (P := Try.prog) (w := w) 192 4 i0 _ Try.underlying192 hi hz0 .i64 .i64 (n : Int) (n : Int) (by omega) (Int.le_refl _) (by rw [hz2]; omega) (by omega)
 rw [hz1] at hr
 simp only [Int.toNat_natCast] at hr
 rw [hr, made_bools]
def ext2 (o : Col) (n d c : Nat) : Col := fun k => if k < n then o k else if k = n then d else c
theorem ext2_old {o : Col} {n d c k : Nat} (h : k < n) : ext2 o n d c k = o k := by simp [ext2, h]
theorem ext2_at {o : Col} {n d c : Nat} : ext2 o n d c n = d := by simp [ext2]
theorem ext2_new {o : Col} {n d c k : Nat} (h : n < k) : ext2 o n d c k = c := by simp [ext2, Nat.not_lt.2 (Nat.le_of_lt h), Nat.ne_of_gt h]
def rowsV (side : List (List Bool)) (gs : List Nat) : List Value := (List.range side.length).map fun k => .slice (some ⟨gs[k]?.getD 0, 0, none⟩) (side[k]?.getD []).length (side[k]?.getD []).length
theorem rowsV_snoc {side : List (List Bool)} {gs : List Nat} (h : gs.length = side.length) (r : List Bool) (g : Nat) : rowsV (side ++ [r]) (gs ++ [g]) = rowsV side gs ++ [.slice (some ⟨g, 0, none⟩) r.length r.length] := by
 unfold rowsV
 rw [List.length_append, List.length_singleton, List.range_succ, List.map_append]
 congr 1
 ·
  refine List.map_congr_left fun k hk => ?_
  have hk' := List.mem_range.1 hk
  rw [List.getElem?_append_left (by omega), List.getElem?_append_left hk']
 ·
  simp [← h]
theorem Side.push {w w2 : World} {o : Col} {c d : Nat} {v v' : Value} {side : List (List Bool)} {gs : List Nat} (h : Side w o c d v side gs) (hcd : c ≠ d) (n : Nat) {tmp : Obj}
  (k1 : w2.ownsRow 0 192 1 v' (side.length + 1) (rowsV side gs ++ [.slice (some ⟨w.heap.size, 0, none⟩) n n])) (k2 : ((w.alloc (.cells (bvs (List.replicate n false)).toArray 4)).alloc tmp).grownBy w2 v.ownBlock)
  (k4 : v'.ownBlock = v.ownBlock ∨ v'.ownBlock = some ((w.alloc (.cells (bvs (List.replicate n false)).toArray 4)).alloc tmp).heap.size) :
  Turn o (ext2 o w.heap.size d c) (fun x => x = c) w w2 ∧ Side w2 (ext2 o w.heap.size d c) c d v' (side ++ [List.replicate n false]) (gs ++ [w.heap.size]) := by
 have hown := fun b (hb : v.ownBlock = some b) => h.own.1.lt b hb
 have T : Turn o (ext2 o w.heap.size d c) (fun x => x = c) w w2 :=
  ⟨((((Mods.refl (fun b => v.ownBlock = some b) w).alloc _).alloc tmp).grown k2 (fun b hb _ => hb)).mono (fun b _ hb => h.own.2 b hb), fun k hk => ext2_old hk⟩
 refine ⟨T, ⟨by simp [h.len], ⟨?_, fun b hb => ?_⟩, fun k hk => ?_, fun i j hij hj => ?_⟩⟩
 ·
  have e := rowsV_snoc h.len (List.replicate n false) w.heap.size
  rw [List.length_replicate] at e
  have e2 : (side ++ [List.replicate n false]).length = side.length + 1 := by simp
  rw [e2]
  rw [← e] at k1
  unfold rowsV at k1
  rw [e2] at k1
  exact k1
 ·
  rcases k4 with k4 | k4
  ·
   rw [k4] at hb
   rw [ext2_old (hown b hb).2]
   exact h.own.2 b hb
  ·
   rw [k4] at hb
   have := Option.some.inj hb
   simp at this
   exact ext2_new (by omega)
 ·
  have hk' : k < side.length + 1 := by simpa using hk
  by_cases e : k < side.length
  ·
   rw [List.getElem?_append_left (by have := h.len; omega), List.getElem?_append_left e]
   exact (h.rows k e).turn T (fun e => hcd e.symm)
  ·
   obtain rfl : k = side.length := by omega
   have e1 : (gs ++ [w.heap.size])[side.length]?.getD 0 = w.heap.size := by rw [← h.len]; simp
   have e2 : (side ++ [List.replicate n false])[side.length]?.getD [] = List.replicate n false := by simp
   rw [e1, e2]
   exact ⟨block_grown (block_alloc (heap_alloc_new w _) tmp) k2 (fun e => by have := (hown _ e).2; omega), ext2_at⟩
 ·
  have hj' : j < side.length + 1 := by simpa using hj
  have hi : i < side.length := by omega
  have e1 : (gs ++ [w.heap.size])[i]?.getD 0 = gs[i]?.getD 0 := by rw [List.getElem?_append_left (by have := h.len; omega)]
  rw [e1]
  by_cases e : j < side.length
  ·
   rw [List.getElem?_append_left (by have := h.len; omega)]
   exact h.apart i j hij e
  ·
   obtain rfl : j = side.length := by omega
   have e2 : (gs ++ [w.heap.size])[side.length]?.getD 0 = w.heap.size := by rw [← h.len]; simp
   rw [e2]
   have := (h.rows i hi).lt
   omega
theorem ChkAt.pushI {w w2 : World} {o : Col} {C B : Nat} {X : ChkV} {k : Chk} (h : ChkAt w o C B X k) {gI : List Nat} (hs : Side w o 3 4 X.vI k.ins gI) (n : Nat) {tmp : Obj} {v' : Value}
  (k1 : w2.ownsRow 0 192 1 v' (k.ins.length + 1) (rowsV k.ins gI ++ [.slice (some ⟨w.heap.size, 0, none⟩) n n])) (k2 : ((w.alloc (.cells (bvs (List.replicate n false)).toArray 4)).alloc tmp).grownBy w2 X.vI.ownBlock)
  (k4 : v'.ownBlock = X.vI.ownBlock ∨ v'.ownBlock = some ((w.alloc (.cells (bvs (List.replicate n false)).toArray 4)).alloc tmp).heap.size) :
  (w2.cell? ⟨C, 6, none⟩ = some X.vI ∧ w2.frozen? ⟨C, 6, none⟩ = false) ∧ Turn o (ext2 o w.heap.size 4 3) ChkC w (w2.setCell ⟨C, 6, none⟩ v') ∧ ChkAt (w2.setCell ⟨C, 6, none⟩ v') (ext2 o w.heap.size 4 3) C B ⟨X.name, X.va, X.ve, X.vi, X.vo, v', X.vO⟩ ⟨k.seen, k.ins ++ [List.replicate n false], k.outs⟩ := by
 obtain ⟨D, m, gI', gO, h1, h2, h3, h4, h5, h6, h7⟩ := h.st
 obtain ⟨T, S⟩ := hs.push (by decide) n k1 k2 k4
 obtain ⟨m1, m2⟩ := map_turn h2 T (by rw [h3]; decide)
 have b1 := h1.turn T (by decide)
 have b7 := h7.turn T (by decide) (by decide)
 obtain ⟨b2, T2⟩ := b1.set 6 v'
 obtain ⟨m3, m4⟩ := map_turn m1 T2 (by rw [m2, h3]; decide)
 refine ⟨⟨b1.cell 6 _ rfl, b1.frozen 6⟩, (T.mono (fun x e => by subst e; unfold ChkC; omega)).trans T2 (fun x e => by subst e; unfold ChkC; omega), D, m, _, gO, ?_, m3, m2.trans h3, h4, h5, S.turn T2 (by decide) (by decide), b7.turn T2 (by decide) (by decide)⟩
 exact b2
theorem ChkAt.pushO {w w2 : World} {o : Col} {C B : Nat} {X : ChkV} {k : Chk} (h : ChkAt w o C B X k) {gO : List Nat} (hs : Side w o 5 6 X.vO k.outs gO) (n : Nat) {tmp : Obj} {v' : Value}
  (k1 : w2.ownsRow 0 192 1 v' (k.outs.length + 1) (rowsV k.outs gO ++ [.slice (some ⟨w.heap.size, 0, none⟩) n n])) (k2 : ((w.alloc (.cells (bvs (List.replicate n false)).toArray 4)).alloc tmp).grownBy w2 X.vO.ownBlock)
  (k4 : v'.ownBlock = X.vO.ownBlock ∨ v'.ownBlock = some ((w.alloc (.cells (bvs (List.replicate n false)).toArray 4)).alloc tmp).heap.size) :
  (w2.cell? ⟨C, 7, none⟩ = some X.vO ∧ w2.frozen? ⟨C, 7, none⟩ = false) ∧ Turn o (ext2 o w.heap.size 6 5) ChkC w (w2.setCell ⟨C, 7, none⟩ v') ∧ ChkAt (w2.setCell ⟨C, 7, none⟩ v') (ext2 o w.heap.size 6 5) C B ⟨X.name, X.va, X.ve, X.vi, X.vo, X.vI, v'⟩ ⟨k.seen, k.ins, k.outs ++ [List.replicate n false]⟩ := by
 obtain ⟨D, m, gI, gO', h1, h2, h3, h4, h5, h6, h7⟩ := h.st
 obtain ⟨T, S⟩ := hs.push (by decide) n k1 k2 k4
 obtain ⟨m1, m2⟩ := map_turn h2 T (by rw [h3]; decide)
 have b1 := h1.turn T (by decide)
 have b6 := h6.turn T (by decide) (by decide)
 obtain ⟨b2, T2⟩ := b1.set 7 v'
 obtain ⟨m3, m4⟩ := map_turn m1 T2 (by rw [m2, h3]; decide)
 refine ⟨⟨b1.cell 7 _ rfl, b1.frozen 7⟩, (T.mono (fun x e => by subst e; unfold ChkC; omega)).trans T2 (fun x e => by subst e; unfold ChkC; omega), D, m, gI, _, ?_, m3, m2.trans h3, h4, h5, b6.turn T2 (by decide) (by decide), S.turn T2 (by decide) (by decide)⟩
 exact b2
end Go.Proofs.Ytbmbfifempkhgaa

/- The shape of an actor: its rates. -/
namespace Go.Proofs.Ytbmbfifempkhgaa
open Go.RowKit
theorem within_yes (w : World) (n m : Int) (h1 : 1 ≤ n) (h2 : n ≤ m) : Calls Try.prog 63 #[.int .i64 n, .int .i64 m] w fun e w' => e = .returned (.bool true) ∧ w = w' := by
 have := within_any w n m
 rwa [decide_eq_true (And.intro h1 h2)] at this
theorem within_no (w : World) (n m : Int) (h : n < 1 ∨ m < n) : Calls Try.prog 63 #[.int .i64 n, .int .i64 m] w fun e w' => e = .returned (.bool false) ∧ w = w' := by
 have := within_any w n m
 rwa [decide_eq_false (by omega)] at this
theorem ints_box (w : World) (vs : List Int) (hp : 0 < vs.length) : Ints (w.alloc (.cells (ivs vs).toArray 3)) (fun _ => 0) 0 (.slice (some ⟨w.heap.size, 0, none⟩) vs.length vs.length) vs := by
 have h := heap_alloc_new w (.cells (ivs vs).toArray 3)
 refine .inr ⟨by simpa using hp, w.heap.size, 0, vs.length, by simp, by simp, by simp, rfl, fun k hk => ?_⟩
 rw [Nat.zero_add]
 refine cells_row _ _ h k _ ?_
 rw [List.getElem?_toArray]
 simp at hk
 simp [hk]
def OfOk (w : World) (t : Int) (ps : List Int) (e : Ending) (w' : World) : Prop :=
 ∃ vi vo, e = .returned (.tuple #[vi, vo, .int .i64 0]) ∧ w'.ownsRow w.heap.size 3 1 vi (insP t ps).length (ivs (insP t ps)) ∧ w'.ownsRow w.heap.size 3 1 vo (outsP t ps).length (ivs (outsP t ps)) ∧ Below w.heap.size w w'
def OfNo (w : World) (x : Int) (e : Ending) (w' : World) : Prop := e = .returned (.tuple #[.slice none 0 0, .slice none 0 0, .int .i64 x]) ∧ Below w.heap.size w w'
theorem of_fin {w W0 w1 W1 w2 : World} {v1 v2 : Value} {n1 n2 : Nat} {l1 l2 : List Value} (h0 : Below w.heap.size w W0) (ho1 : w1.ownsRow W0.heap.size 3 1 v1 n1 l1) (hb1 : Below W0.heap.size W0 w1) (h1 : Below w1.heap.size w1 W1) (ho2 : w2.ownsRow W1.heap.size 3 1 v2 n2 l2) (hb2 : Below W1.heap.size W1 w2) :
  w2.ownsRow w.heap.size 3 1 v1 n1 l1 ∧ w2.ownsRow w.heap.size 3 1 v2 n2 l2 ∧ Below w.heap.size w w2 := by
 have s0 := h0.size
 have s1 := hb1.size
 have s2 := h1.size
 have b2 : Below w1.heap.size w1 w2 := h1.trans (hb2.mono s2)
 exact ⟨owns_base (owns_kept ho1 (Mods.of_below b2 (fun _ => False)) (fun _ _ h => h)) (fun k hk => by have := (ho1.lt k hk).1; omega), owns_base ho2 (fun k hk => by have := (ho2.lt k hk).1; omega), h0.trans ((hb1.mono s0).trans (b2.mono (by omega)))⟩
theorem of_fin1 {w W0 w1 : World} {v1 : Value} {n1 : Nat} {l1 : List Value} (h0 : Below w.heap.size w W0) (ho1 : w1.ownsRow W0.heap.size 3 1 v1 n1 l1) (hb1 : Below W0.heap.size W0 w1) :
  w1.ownsRow w.heap.size 3 1 v1 n1 l1 ∧ Below w.heap.size w w1 := by
 have s0 := h0.size
 exact ⟨owns_base ho1 (fun k hk => by have := (ho1.lt k hk).1; omega), h0.trans (hb1.mono s0)⟩
set_option maxRecDepth 100000 in
set_option maxHeartbeats 1000000 in
theorem of_tag (w : World) (t : Int) (v : Value) (h : t < 1 ∨ 11 < t) : Calls Try.prog 22 #[.int .u8 t, v] w (OfNo w 60) := by
 by_cases h1 : t < 1
 ·
  go_enter Try.func22, Try.ntmps22
  go_wp2
  go_ret3
  exact ⟨rfl, Below.refl _ _⟩
 ·
  have h2 : 11 < t := by omega
  go_enter Try.func22, Try.ntmps22
  go_wp2
  go_ret3
  exact ⟨rfl, Below.refl _ _⟩
theorem pair_cases (x y : Int) : (x < 1 ∨ 16 < x) ∨ ((1 ≤ x ∧ x ≤ 16) ∧ (y < 1 ∨ 64 < y)) ∨ ((1 ≤ x ∧ x ≤ 16) ∧ (1 ≤ y ∧ y ≤ 64) ∧ 0 ≤ x * y ∧ x * y ≤ 64) ∨ ((1 ≤ x ∧ x ≤ 16) ∧ (1 ≤ y ∧ y ≤ 64) ∧ 64 < x * y ∧ x * y ≤ 1024) := by
 by_cases h1 : x < 1 ∨ 16 < x
 ·
  exact .inl h1
 ·
  by_cases h2 : y < 1 ∨ 64 < y
  ·
   exact .inr (.inl ⟨by omega, h2⟩)
  ·
   have h3 : 0 ≤ x * y := Int.mul_nonneg (by omega) (by omega)
   have h4 : x * y ≤ 16 * 64 := Int.mul_le_mul (by omega) (by omega) (by omega) (by omega)
   by_cases h5 : x * y ≤ 64
   ·
    exact .inr (.inr (.inl ⟨by omega, by omega, h3, h5⟩))
   ·
    exact .inr (.inr (.inr ⟨by omega, by omega, by omega, by omega⟩))
set_option maxRecDepth 100000 in
set_option maxHeartbeats 4000000 in
theorem of_1_l0 (w : World) (ao : Option Addr) (cap : Nat) : Calls Try.prog 22 #[.int .u8 1, .slice ao 0 cap] w (OfNo w 61) := by
 go_enter Try.func22, Try.ntmps22
 go_wp2_with (go_at_call 63; (first | ((with_reducible refine (within_yes _ _ _ ?_ ?_).mono ?_); (focus omega); (focus omega)) | ((with_reducible refine (within_no _ _ _ ?_).mono ?_); (focus omega))); rintro e w' ⟨rfl, rfl⟩)
 go_ret3
 exact ⟨rfl, Below.refl _ _⟩
set_option maxRecDepth 100000 in
set_option maxHeartbeats 4000000 in
theorem of_1_l1 (w : World) {o : Col} {c : Nat} (ao : Option Addr) (cap : Nat) (x : Int) (h : Ints w o c (.slice ao 1 cap) [x]) : Calls Try.prog 22 #[.int .u8 1, .slice ao 1 cap] w (OfOk w 1 [x]) := by
 obtain ⟨b, off, rfl, -, hcap, -, -, hc⟩ := h.at (by simp)
 have c0 := hc 0 (by simp)
 simp at c0
 clear hc h
 go_enter Try.func22, Try.ntmps22
 go_wp2_with (go_at_call 63; (first | ((with_reducible refine (within_yes _ _ _ ?_ ?_).mono ?_); (focus omega); (focus omega)) | ((with_reducible refine (within_no _ _ _ ?_).mono ?_); (focus omega))); rintro e w' ⟨rfl, rfl⟩)
 refine (ports_any _ _ _ _ [1] (ints_box _ [1] (by simp))  (by simp)).mono ?_
 rintro e w1 ⟨g1, c1, rfl, ho1, hb1⟩
 go_wp2_with fail
 refine (ports_any _ _ _ _ [1] (ints_box _ [1] (by simp))  (by simp)).mono ?_
 rintro e w2 ⟨g2, c2, rfl, ho2, hb2⟩
 go_wp2
 go_ret3
 exact ⟨_, _, rfl, by simpa [insP, outsP, hd, hd1] using of_fin (by first | exact Below.refl _ _ | exact (Below.refl _ _).alloc (Nat.le_refl _) _) ho1 hb1 (by first | exact Below.refl _ _ | exact (Below.refl _ _).alloc (Nat.le_refl _) _) ho2 hb2⟩
set_option maxRecDepth 100000 in
set_option maxHeartbeats 4000000 in
theorem of_1_l2 (w : World) {o : Col} {c : Nat} (ao : Option Addr) (cap : Nat) (x y : Int) (h : Ints w o c (.slice ao 2 cap) [x, y]) : Calls Try.prog 22 #[.int .u8 1, .slice ao 2 cap] w (OfOk w 1 [x, y]) := by
 obtain ⟨b, off, rfl, -, hcap, -, -, hc⟩ := h.at (by simp)
 have c0 := hc 0 (by simp)
 have c1 := hc 1 (by simp)
 simp at c0 c1
 clear hc h
 have hcase : (x < 1 ∨ 16 < x) ∨ ((1 ≤ x ∧ x ≤ 16) ∧ (y < 1 ∨ 64 < y)) ∨ ((1 ≤ x ∧ x ≤ 16) ∧ (1 ≤ y ∧ y ≤ 64) ∧ 0 ≤ x * y ∧ x * y ≤ 64) ∨ ((1 ≤ x ∧ x ≤ 16) ∧ (1 ≤ y ∧ y ≤ 64) ∧ 64 < x * y ∧ x * y ≤ 1024) := pair_cases x y
 rcases hcase with hx | ⟨hx, hy⟩ | ⟨hx, hy, hz, hz2⟩ | ⟨hx, hy, hz, hz2⟩
 all_goals
  go_enter Try.func22, Try.ntmps22
  go_wp2_with (go_at_call 63; (first | ((with_reducible refine (within_yes _ _ _ ?_ ?_).mono ?_); (focus omega); (focus omega)) | ((with_reducible refine (within_no _ _ _ ?_).mono ?_); (focus omega))); rintro e w' ⟨rfl, rfl⟩)
  refine (ports_any _ _ _ _ [1] (ints_box _ [1] (by simp))  (by simp)).mono ?_
  rintro e w1 ⟨g1, c1, rfl, ho1, hb1⟩
  go_wp2_with fail
  refine (ports_any _ _ _ _ [1] (ints_box _ [1] (by simp))  (by simp)).mono ?_
  rintro e w2 ⟨g2, c2, rfl, ho2, hb2⟩
  go_wp2
  go_ret3
  exact ⟨_, _, rfl, by simpa [insP, outsP, hd, hd1] using of_fin (by first | exact Below.refl _ _ | exact (Below.refl _ _).alloc (Nat.le_refl _) _) ho1 hb1 (by first | exact Below.refl _ _ | exact (Below.refl _ _).alloc (Nat.le_refl _) _) ho2 hb2⟩
set_option maxRecDepth 100000 in
set_option maxHeartbeats 4000000 in
theorem of_1_l3y (w : World) {o : Col} {c : Nat} (ao : Option Addr) (cap : Nat) (l : List Int) (k : Nat) (hk : l.length = k + 3) (hm : k ≤ 13) (h : Ints w o c (.slice ao (k + 3) cap) l) : Calls Try.prog 22 #[.int .u8 1, .slice ao (k + 3) cap] w (OfOk w 1 l) := by
 obtain ⟨b, off, rfl, -, hcap, -, -, hc⟩ := h.at (by omega)
 have c0 := hc 0 (by omega)
 have c1 := hc 1 (by omega)
 generalize l[0]?.getD 0 = x at c0
 generalize l[1]?.getD 0 = y at c1
 have hkk : (k : Int) ≤ 17600000000000 := by omega
 rw [Nat.add_zero] at c0
 clear hc h hk
 go_enter Try.func22, Try.ntmps22
 go_wp2_with (go_at_call 63; (first | ((with_reducible refine (within_yes _ _ _ ?_ ?_).mono ?_); (focus omega); (focus omega)) | ((with_reducible refine (within_no _ _ _ ?_).mono ?_); (focus omega))); rintro e w' ⟨rfl, rfl⟩)
 refine (ports_any _ _ _ _ [1] (ints_box _ [1] (by simp))  (by simp)).mono ?_
 rintro e w1 ⟨g1, c1, rfl, ho1, hb1⟩
 go_wp2_with fail
 refine (ports_any _ _ _ _ [1] (ints_box _ [1] (by simp))  (by simp)).mono ?_
 rintro e w2 ⟨g2, c2, rfl, ho2, hb2⟩
 go_wp2
 go_ret3
 exact ⟨_, _, rfl, by simpa [insP, outsP, hd, hd1] using of_fin (by first | exact Below.refl _ _ | exact (Below.refl _ _).alloc (Nat.le_refl _) _) ho1 hb1 (by first | exact Below.refl _ _ | exact (Below.refl _ _).alloc (Nat.le_refl _) _) ho2 hb2⟩
set_option maxRecDepth 100000 in
set_option maxHeartbeats 4000000 in
theorem of_1_l3n (w : World) {o : Col} {c : Nat} (ao : Option Addr) (cap : Nat) (l : List Int) (k : Nat) (hk : l.length = k + 3) (hm1 : 13 < k) (hm : k ≤ 17600000000000) (h : Ints w o c (.slice ao (k + 3) cap) l) : Calls Try.prog 22 #[.int .u8 1, .slice ao (k + 3) cap] w (OfNo w 61) := by
 obtain ⟨b, off, rfl, -, hcap, -, -, hc⟩ := h.at (by omega)
 have c0 := hc 0 (by omega)
 have c1 := hc 1 (by omega)
 generalize l[0]?.getD 0 = x at c0
 generalize l[1]?.getD 0 = y at c1
 have hkk : (k : Int) ≤ 17600000000000 := by omega
 rw [Nat.add_zero] at c0
 clear hc h hk
 have hk1 : (13 : Int) < k := by omega
 go_enter Try.func22, Try.ntmps22
 go_wp2_with (go_at_call 63; (first | ((with_reducible refine (within_yes _ _ _ ?_ ?_).mono ?_); (focus omega); (focus omega)) | ((with_reducible refine (within_no _ _ _ ?_).mono ?_); (focus omega))); rintro e w' ⟨rfl, rfl⟩)
 go_ret3
 exact ⟨rfl, Below.refl _ _⟩
set_option maxRecDepth 100000 in
set_option maxHeartbeats 4000000 in
theorem of_2_l0 (w : World) (ao : Option Addr) (cap : Nat) : Calls Try.prog 22 #[.int .u8 2, .slice ao 0 cap] w (OfNo w 61) := by
 go_enter Try.func22, Try.ntmps22
 go_wp2_with (go_at_call 63; (first | ((with_reducible refine (within_yes _ _ _ ?_ ?_).mono ?_); (focus omega); (focus omega)) | ((with_reducible refine (within_no _ _ _ ?_).mono ?_); (focus omega))); rintro e w' ⟨rfl, rfl⟩)
 go_ret3
 exact ⟨rfl, Below.refl _ _⟩
set_option maxRecDepth 100000 in
set_option maxHeartbeats 4000000 in
theorem of_2_l1y (w : World) {o : Col} {c : Nat} (ao : Option Addr) (cap : Nat) (x : Int) (h1 : 1 ≤ x) (h2 : x ≤ 64) (h : Ints w o c (.slice ao 1 cap) [x]) : Calls Try.prog 22 #[.int .u8 2, .slice ao 1 cap] w (OfOk w 2 [x]) := by
 obtain ⟨b, off, rfl, -, hcap, -, -, hc⟩ := h.at (by simp)
 have c0 := hc 0 (by simp)
 simp at c0
 clear hc h
 go_enter Try.func22, Try.ntmps22
 go_wp2_with (go_at_call 63; (first | ((with_reducible refine (within_yes _ _ _ ?_ ?_).mono ?_); (focus omega); (focus omega)) | ((with_reducible refine (within_no _ _ _ ?_).mono ?_); (focus omega))); rintro e w' ⟨rfl, rfl⟩)
 refine (ports_any _ _ _ _ [1] (ints_box _ [1] (by simp))  (by simp)).mono ?_
 rintro e w1 ⟨g1, c1, rfl, ho1, hb1⟩
 go_wp2_with fail
 refine (ports_any _ _ _ _ [x] (ints_box _ [x] (by simp))  (by simp)).mono ?_
 rintro e w2 ⟨g2, c2, rfl, ho2, hb2⟩
 go_wp2
 go_ret3
 exact ⟨_, _, rfl, by simpa [insP, outsP, hd, hd1] using of_fin (by first | exact Below.refl _ _ | exact (Below.refl _ _).alloc (Nat.le_refl _) _) ho1 hb1 (by first | exact Below.refl _ _ | exact (Below.refl _ _).alloc (Nat.le_refl _) _) ho2 hb2⟩
set_option maxRecDepth 100000 in
set_option maxHeartbeats 4000000 in
theorem of_2_l1n (w : World) {o : Col} {c : Nat} (ao : Option Addr) (cap : Nat) (x : Int) (h1 : x < 1 ∨ 64 < x) (h : Ints w o c (.slice ao 1 cap) [x]) : Calls Try.prog 22 #[.int .u8 2, .slice ao 1 cap] w (OfNo w 61) := by
 obtain ⟨b, off, rfl, -, hcap, -, -, hc⟩ := h.at (by simp)
 have c0 := hc 0 (by simp)
 simp at c0
 clear hc h
 go_enter Try.func22, Try.ntmps22
 go_wp2_with (go_at_call 63; (first | ((with_reducible refine (within_yes _ _ _ ?_ ?_).mono ?_); (focus omega); (focus omega)) | ((with_reducible refine (within_no _ _ _ ?_).mono ?_); (focus omega))); rintro e w' ⟨rfl, rfl⟩)
 go_ret3
 exact ⟨rfl, Below.refl _ _⟩
set_option maxRecDepth 100000 in
set_option maxHeartbeats 4000000 in
theorem of_2_l2 (w : World) {o : Col} {c : Nat} (ao : Option Addr) (cap : Nat) (x y : Int) (h : Ints w o c (.slice ao 2 cap) [x, y]) : Calls Try.prog 22 #[.int .u8 2, .slice ao 2 cap] w (OfNo w 61) := by
 obtain ⟨b, off, rfl, -, hcap, -, -, hc⟩ := h.at (by simp)
 have c0 := hc 0 (by simp)
 have c1 := hc 1 (by simp)
 simp at c0 c1
 clear hc h
 have hcase : (x < 1 ∨ 16 < x) ∨ ((1 ≤ x ∧ x ≤ 16) ∧ (y < 1 ∨ 64 < y)) ∨ ((1 ≤ x ∧ x ≤ 16) ∧ (1 ≤ y ∧ y ≤ 64) ∧ 0 ≤ x * y ∧ x * y ≤ 64) ∨ ((1 ≤ x ∧ x ≤ 16) ∧ (1 ≤ y ∧ y ≤ 64) ∧ 64 < x * y ∧ x * y ≤ 1024) := pair_cases x y
 rcases hcase with hx | ⟨hx, hy⟩ | ⟨hx, hy, hz, hz2⟩ | ⟨hx, hy, hz, hz2⟩
 all_goals
  go_enter Try.func22, Try.ntmps22
  go_wp2_with (go_at_call 63; (first | ((with_reducible refine (within_yes _ _ _ ?_ ?_).mono ?_); (focus omega); (focus omega)) | ((with_reducible refine (within_no _ _ _ ?_).mono ?_); (focus omega))); rintro e w' ⟨rfl, rfl⟩)
  go_ret3
  exact ⟨rfl, Below.refl _ _⟩
set_option maxRecDepth 100000 in
set_option maxHeartbeats 4000000 in
theorem of_2_l3 (w : World) {o : Col} {c : Nat} (ao : Option Addr) (cap : Nat) (l : List Int) (k : Nat) (hk : l.length = k + 3) (hm : k ≤ 17600000000000) (h : Ints w o c (.slice ao (k + 3) cap) l) : Calls Try.prog 22 #[.int .u8 2, .slice ao (k + 3) cap] w (OfNo w 61) := by
 obtain ⟨b, off, rfl, -, hcap, -, -, hc⟩ := h.at (by omega)
 have c0 := hc 0 (by omega)
 have c1 := hc 1 (by omega)
 generalize l[0]?.getD 0 = x at c0
 generalize l[1]?.getD 0 = y at c1
 have hkk : (k : Int) ≤ 17600000000000 := by omega
 rw [Nat.add_zero] at c0
 clear hc h hk
 go_enter Try.func22, Try.ntmps22
 go_wp2_with (go_at_call 63; (first | ((with_reducible refine (within_yes _ _ _ ?_ ?_).mono ?_); (focus omega); (focus omega)) | ((with_reducible refine (within_no _ _ _ ?_).mono ?_); (focus omega))); rintro e w' ⟨rfl, rfl⟩)
 go_ret3
 exact ⟨rfl, Below.refl _ _⟩
set_option maxRecDepth 100000 in
set_option maxHeartbeats 4000000 in
theorem of_3_l0 (w : World) (ao : Option Addr) (cap : Nat) : Calls Try.prog 22 #[.int .u8 3, .slice ao 0 cap] w (OfNo w 61) := by
 go_enter Try.func22, Try.ntmps22
 go_wp2_with (go_at_call 63; (first | ((with_reducible refine (within_yes _ _ _ ?_ ?_).mono ?_); (focus omega); (focus omega)) | ((with_reducible refine (within_no _ _ _ ?_).mono ?_); (focus omega))); rintro e w' ⟨rfl, rfl⟩)
 go_ret3
 exact ⟨rfl, Below.refl _ _⟩
set_option maxRecDepth 100000 in
set_option maxHeartbeats 4000000 in
theorem of_3_l1y (w : World) {o : Col} {c : Nat} (ao : Option Addr) (cap : Nat) (x : Int) (h1 : 1 ≤ x) (h2 : x ≤ 64) (h : Ints w o c (.slice ao 1 cap) [x]) : Calls Try.prog 22 #[.int .u8 3, .slice ao 1 cap] w (OfOk w 3 [x]) := by
 obtain ⟨b, off, rfl, -, hcap, -, -, hc⟩ := h.at (by simp)
 have c0 := hc 0 (by simp)
 simp at c0
 clear hc h
 go_enter Try.func22, Try.ntmps22
 go_wp2_with (go_at_call 63; (first | ((with_reducible refine (within_yes _ _ _ ?_ ?_).mono ?_); (focus omega); (focus omega)) | ((with_reducible refine (within_no _ _ _ ?_).mono ?_); (focus omega))); rintro e w' ⟨rfl, rfl⟩)
 refine (ports_any _ _ _ _ [x] (ints_box _ [x] (by simp))  (by simp)).mono ?_
 rintro e w1 ⟨g1, c1, rfl, ho1, hb1⟩
 go_wp2_with fail
 refine (ports_any _ _ _ _ [1] (ints_box _ [1] (by simp))  (by simp)).mono ?_
 rintro e w2 ⟨g2, c2, rfl, ho2, hb2⟩
 go_wp2
 go_ret3
 exact ⟨_, _, rfl, by simpa [insP, outsP, hd, hd1] using of_fin (by first | exact Below.refl _ _ | exact (Below.refl _ _).alloc (Nat.le_refl _) _) ho1 hb1 (by first | exact Below.refl _ _ | exact (Below.refl _ _).alloc (Nat.le_refl _) _) ho2 hb2⟩
set_option maxRecDepth 100000 in
set_option maxHeartbeats 4000000 in
theorem of_3_l1n (w : World) {o : Col} {c : Nat} (ao : Option Addr) (cap : Nat) (x : Int) (h1 : x < 1 ∨ 64 < x) (h : Ints w o c (.slice ao 1 cap) [x]) : Calls Try.prog 22 #[.int .u8 3, .slice ao 1 cap] w (OfNo w 61) := by
 obtain ⟨b, off, rfl, -, hcap, -, -, hc⟩ := h.at (by simp)
 have c0 := hc 0 (by simp)
 simp at c0
 clear hc h
 go_enter Try.func22, Try.ntmps22
 go_wp2_with (go_at_call 63; (first | ((with_reducible refine (within_yes _ _ _ ?_ ?_).mono ?_); (focus omega); (focus omega)) | ((with_reducible refine (within_no _ _ _ ?_).mono ?_); (focus omega))); rintro e w' ⟨rfl, rfl⟩)
 go_ret3
 exact ⟨rfl, Below.refl _ _⟩
set_option maxRecDepth 100000 in
set_option maxHeartbeats 4000000 in
theorem of_3_l2 (w : World) {o : Col} {c : Nat} (ao : Option Addr) (cap : Nat) (x y : Int) (h : Ints w o c (.slice ao 2 cap) [x, y]) : Calls Try.prog 22 #[.int .u8 3, .slice ao 2 cap] w (OfNo w 61) := by
 obtain ⟨b, off, rfl, -, hcap, -, -, hc⟩ := h.at (by simp)
 have c0 := hc 0 (by simp)
 have c1 := hc 1 (by simp)
 simp at c0 c1
 clear hc h
 have hcase : (x < 1 ∨ 16 < x) ∨ ((1 ≤ x ∧ x ≤ 16) ∧ (y < 1 ∨ 64 < y)) ∨ ((1 ≤ x ∧ x ≤ 16) ∧ (1 ≤ y ∧ y ≤ 64) ∧ 0 ≤ x * y ∧ x * y ≤ 64) ∨ ((1 ≤ x ∧ x ≤ 16) ∧ (1 ≤ y ∧ y ≤ 64) ∧ 64 < x * y ∧ x * y ≤ 1024) := pair_cases x y
 rcases hcase with hx | ⟨hx, hy⟩ | ⟨hx, hy, hz, hz2⟩ | ⟨hx, hy, hz, hz2⟩
 all_goals
  go_enter Try.func22, Try.ntmps22
  go_wp2_with (go_at_call 63; (first | ((with_reducible refine (within_yes _ _ _ ?_ ?_).mono ?_); (focus omega); (focus omega)) | ((with_reducible refine (within_no _ _ _ ?_).mono ?_); (focus omega))); rintro e w' ⟨rfl, rfl⟩)
  go_ret3
  exact ⟨rfl, Below.refl _ _⟩
set_option maxRecDepth 100000 in
set_option maxHeartbeats 4000000 in
theorem of_3_l3 (w : World) {o : Col} {c : Nat} (ao : Option Addr) (cap : Nat) (l : List Int) (k : Nat) (hk : l.length = k + 3) (hm : k ≤ 17600000000000) (h : Ints w o c (.slice ao (k + 3) cap) l) : Calls Try.prog 22 #[.int .u8 3, .slice ao (k + 3) cap] w (OfNo w 61) := by
 obtain ⟨b, off, rfl, -, hcap, -, -, hc⟩ := h.at (by omega)
 have c0 := hc 0 (by omega)
 have c1 := hc 1 (by omega)
 generalize l[0]?.getD 0 = x at c0
 generalize l[1]?.getD 0 = y at c1
 have hkk : (k : Int) ≤ 17600000000000 := by omega
 rw [Nat.add_zero] at c0
 clear hc h hk
 go_enter Try.func22, Try.ntmps22
 go_wp2_with (go_at_call 63; (first | ((with_reducible refine (within_yes _ _ _ ?_ ?_).mono ?_); (focus omega); (focus omega)) | ((with_reducible refine (within_no _ _ _ ?_).mono ?_); (focus omega))); rintro e w' ⟨rfl, rfl⟩)
 go_ret3
 exact ⟨rfl, Below.refl _ _⟩
set_option maxRecDepth 100000 in
set_option maxHeartbeats 4000000 in
theorem of_4_l0 (w : World) (ao : Option Addr) (cap : Nat) : Calls Try.prog 22 #[.int .u8 4, .slice ao 0 cap] w (OfNo w 61) := by
 go_enter Try.func22, Try.ntmps22
 go_wp2_with (go_at_call 63; (first | ((with_reducible refine (within_yes _ _ _ ?_ ?_).mono ?_); (focus omega); (focus omega)) | ((with_reducible refine (within_no _ _ _ ?_).mono ?_); (focus omega))); rintro e w' ⟨rfl, rfl⟩)
 go_ret3
 exact ⟨rfl, Below.refl _ _⟩
set_option maxRecDepth 100000 in
set_option maxHeartbeats 4000000 in
theorem of_4_l1 (w : World) {o : Col} {c : Nat} (ao : Option Addr) (cap : Nat) (x : Int) (h : Ints w o c (.slice ao 1 cap) [x]) : Calls Try.prog 22 #[.int .u8 4, .slice ao 1 cap] w (OfNo w 61) := by
 obtain ⟨b, off, rfl, -, hcap, -, -, hc⟩ := h.at (by simp)
 have c0 := hc 0 (by simp)
 simp at c0
 clear hc h
 go_enter Try.func22, Try.ntmps22
 go_wp2_with (go_at_call 63; (first | ((with_reducible refine (within_yes _ _ _ ?_ ?_).mono ?_); (focus omega); (focus omega)) | ((with_reducible refine (within_no _ _ _ ?_).mono ?_); (focus omega))); rintro e w' ⟨rfl, rfl⟩)
 go_ret3
 exact ⟨rfl, Below.refl _ _⟩
set_option maxRecDepth 100000 in
set_option maxHeartbeats 4000000 in
theorem of_4_l2y (w : World) {o : Col} {c : Nat} (ao : Option Addr) (cap : Nat) (n k : Nat) (h1 : 1 ≤ n) (h2 : n ≤ 16) (h3 : 1 ≤ k) (h4 : k ≤ 64) (h5 : n * k ≤ 64) (h : Ints w o c (.slice ao 2 cap) [(n : Int), (k : Int)]) : Calls Try.prog 22 #[.int .u8 4, .slice ao 2 cap] w (OfOk w 4 [(n : Int), (k : Int)]) := by
 obtain ⟨b, off, rfl, -, hcap, -, -, hc⟩ := h.at (by simp)
 have c0 := hc 0 (by simp)
 have c1 := hc 1 (by simp)
 simp at c0 c1
 clear hc h
 have h1i : (1 : Int) ≤ n := by omega
 have h2i : (n : Int) ≤ 16 := by omega
 have h3i : (1 : Int) ≤ k := by omega
 have h4i : (k : Int) ≤ 64 := by omega
 have h5i : (n : Int) * k ≤ 64 := by exact_mod_cast h5
 have h6i : (0 : Int) ≤ (n : Int) * k := by exact_mod_cast Nat.zero_le _
 go_enter Try.func22, Try.ntmps22
 go_wp2_with (go_at_call 63; (first | ((with_reducible refine (within_yes _ _ _ ?_ ?_).mono ?_); (focus omega); (focus omega)) | ((with_reducible refine (within_no _ _ _ ?_).mono ?_); (focus omega))); rintro e w' ⟨rfl, rfl⟩)
 refine (same_any _ n k (by omega)).mono ?_
 rintro e w1 ⟨g1, c1, rfl, ho1, hb1⟩
 go_wp2_with fail
 refine (ports_any _ _ _ _ [(n : Int) * k] (ints_box _ [(n : Int) * k] (by simp))  (by simp)).mono ?_
 rintro e w2 ⟨g2, c2, rfl, ho2, hb2⟩
 go_wp2
 go_ret3
 exact ⟨_, _, rfl, by simpa [insP, outsP, hd, hd1] using of_fin (by first | exact Below.refl _ _ | exact (Below.refl _ _).alloc (Nat.le_refl _) _) ho1 hb1 (by first | exact Below.refl _ _ | exact (Below.refl _ _).alloc (Nat.le_refl _) _) ho2 hb2⟩
set_option maxRecDepth 100000 in
set_option maxHeartbeats 4000000 in
theorem of_4_l2n (w : World) {o : Col} {c : Nat} (ao : Option Addr) (cap : Nat) (x y : Int) (hcase : (x < 1 ∨ 16 < x) ∨ ((1 ≤ x ∧ x ≤ 16) ∧ (y < 1 ∨ 64 < y)) ∨ ((1 ≤ x ∧ x ≤ 16) ∧ (1 ≤ y ∧ y ≤ 64) ∧ 64 < x * y ∧ x * y ≤ 1024)) (h : Ints w o c (.slice ao 2 cap) [x, y]) : Calls Try.prog 22 #[.int .u8 4, .slice ao 2 cap] w (OfNo w 61) := by
 obtain ⟨b, off, rfl, -, hcap, -, -, hc⟩ := h.at (by simp)
 have c0 := hc 0 (by simp)
 have c1 := hc 1 (by simp)
 simp at c0 c1
 clear hc h
 rcases hcase with hx | ⟨hx, hy⟩ | ⟨hx, hy, hz, hz2⟩
 all_goals
  go_enter Try.func22, Try.ntmps22
  go_wp2_with (go_at_call 63; (first | ((with_reducible refine (within_yes _ _ _ ?_ ?_).mono ?_); (focus omega); (focus omega)) | ((with_reducible refine (within_no _ _ _ ?_).mono ?_); (focus omega))); rintro e w' ⟨rfl, rfl⟩)
  go_ret3
  exact ⟨rfl, Below.refl _ _⟩
set_option maxRecDepth 100000 in
set_option maxHeartbeats 4000000 in
theorem of_4_l3 (w : World) {o : Col} {c : Nat} (ao : Option Addr) (cap : Nat) (l : List Int) (k : Nat) (hk : l.length = k + 3) (hm : k ≤ 17600000000000) (h : Ints w o c (.slice ao (k + 3) cap) l) : Calls Try.prog 22 #[.int .u8 4, .slice ao (k + 3) cap] w (OfNo w 61) := by
 obtain ⟨b, off, rfl, -, hcap, -, -, hc⟩ := h.at (by omega)
 have c0 := hc 0 (by omega)
 have c1 := hc 1 (by omega)
 generalize l[0]?.getD 0 = x at c0
 generalize l[1]?.getD 0 = y at c1
 have hkk : (k : Int) ≤ 17600000000000 := by omega
 rw [Nat.add_zero] at c0
 clear hc h hk
 go_enter Try.func22, Try.ntmps22
 go_wp2_with (go_at_call 63; (first | ((with_reducible refine (within_yes _ _ _ ?_ ?_).mono ?_); (focus omega); (focus omega)) | ((with_reducible refine (within_no _ _ _ ?_).mono ?_); (focus omega))); rintro e w' ⟨rfl, rfl⟩)
 go_ret3
 exact ⟨rfl, Below.refl _ _⟩
set_option maxRecDepth 100000 in
set_option maxHeartbeats 4000000 in
theorem of_5_l0 (w : World) (ao : Option Addr) (cap : Nat) : Calls Try.prog 22 #[.int .u8 5, .slice ao 0 cap] w (OfNo w 61) := by
 go_enter Try.func22, Try.ntmps22
 go_wp2_with (go_at_call 63; (first | ((with_reducible refine (within_yes _ _ _ ?_ ?_).mono ?_); (focus omega); (focus omega)) | ((with_reducible refine (within_no _ _ _ ?_).mono ?_); (focus omega))); rintro e w' ⟨rfl, rfl⟩)
 go_ret3
 exact ⟨rfl, Below.refl _ _⟩
set_option maxRecDepth 100000 in
set_option maxHeartbeats 4000000 in
theorem of_5_l1 (w : World) {o : Col} {c : Nat} (ao : Option Addr) (cap : Nat) (x : Int) (h : Ints w o c (.slice ao 1 cap) [x]) : Calls Try.prog 22 #[.int .u8 5, .slice ao 1 cap] w (OfNo w 61) := by
 obtain ⟨b, off, rfl, -, hcap, -, -, hc⟩ := h.at (by simp)
 have c0 := hc 0 (by simp)
 simp at c0
 clear hc h
 go_enter Try.func22, Try.ntmps22
 go_wp2_with (go_at_call 63; (first | ((with_reducible refine (within_yes _ _ _ ?_ ?_).mono ?_); (focus omega); (focus omega)) | ((with_reducible refine (within_no _ _ _ ?_).mono ?_); (focus omega))); rintro e w' ⟨rfl, rfl⟩)
 go_ret3
 exact ⟨rfl, Below.refl _ _⟩
set_option maxRecDepth 100000 in
set_option maxHeartbeats 4000000 in
theorem of_5_l2y (w : World) {o : Col} {c : Nat} (ao : Option Addr) (cap : Nat) (n k : Nat) (h1 : 1 ≤ n) (h2 : n ≤ 16) (h3 : 1 ≤ k) (h4 : k ≤ 64) (h5 : n * k ≤ 64) (h : Ints w o c (.slice ao 2 cap) [(n : Int), (k : Int)]) : Calls Try.prog 22 #[.int .u8 5, .slice ao 2 cap] w (OfOk w 5 [(n : Int), (k : Int)]) := by
 obtain ⟨b, off, rfl, -, hcap, -, -, hc⟩ := h.at (by simp)
 have c0 := hc 0 (by simp)
 have c1 := hc 1 (by simp)
 simp at c0 c1
 clear hc h
 have h1i : (1 : Int) ≤ n := by omega
 have h2i : (n : Int) ≤ 16 := by omega
 have h3i : (1 : Int) ≤ k := by omega
 have h4i : (k : Int) ≤ 64 := by omega
 have h5i : (n : Int) * k ≤ 64 := by exact_mod_cast h5
 have h6i : (0 : Int) ≤ (n : Int) * k := by exact_mod_cast Nat.zero_le _
 go_enter Try.func22, Try.ntmps22
 go_wp2_with (go_at_call 63; (first | ((with_reducible refine (within_yes _ _ _ ?_ ?_).mono ?_); (focus omega); (focus omega)) | ((with_reducible refine (within_no _ _ _ ?_).mono ?_); (focus omega))); rintro e w' ⟨rfl, rfl⟩)
 refine (ports_any _ _ _ _ [(n : Int) * k] (ints_box _ [(n : Int) * k] (by simp))  (by simp)).mono ?_
 rintro e w1 ⟨g1, c1, rfl, ho1, hb1⟩
 go_wp2_with fail
 refine (same_any _ n k (by omega)).mono ?_
 rintro e w2 ⟨g2, c2, rfl, ho2, hb2⟩
 go_wp2
 go_ret3
 exact ⟨_, _, rfl, by simpa [insP, outsP, hd, hd1] using of_fin (by first | exact Below.refl _ _ | exact (Below.refl _ _).alloc (Nat.le_refl _) _) ho1 hb1 (by first | exact Below.refl _ _ | exact (Below.refl _ _).alloc (Nat.le_refl _) _) ho2 hb2⟩
set_option maxRecDepth 100000 in
set_option maxHeartbeats 4000000 in
theorem of_5_l2n (w : World) {o : Col} {c : Nat} (ao : Option Addr) (cap : Nat) (x y : Int) (hcase : (x < 1 ∨ 16 < x) ∨ ((1 ≤ x ∧ x ≤ 16) ∧ (y < 1 ∨ 64 < y)) ∨ ((1 ≤ x ∧ x ≤ 16) ∧ (1 ≤ y ∧ y ≤ 64) ∧ 64 < x * y ∧ x * y ≤ 1024)) (h : Ints w o c (.slice ao 2 cap) [x, y]) : Calls Try.prog 22 #[.int .u8 5, .slice ao 2 cap] w (OfNo w 61) := by
 obtain ⟨b, off, rfl, -, hcap, -, -, hc⟩ := h.at (by simp)
 have c0 := hc 0 (by simp)
 have c1 := hc 1 (by simp)
 simp at c0 c1
 clear hc h
 rcases hcase with hx | ⟨hx, hy⟩ | ⟨hx, hy, hz, hz2⟩
 all_goals
  go_enter Try.func22, Try.ntmps22
  go_wp2_with (go_at_call 63; (first | ((with_reducible refine (within_yes _ _ _ ?_ ?_).mono ?_); (focus omega); (focus omega)) | ((with_reducible refine (within_no _ _ _ ?_).mono ?_); (focus omega))); rintro e w' ⟨rfl, rfl⟩)
  go_ret3
  exact ⟨rfl, Below.refl _ _⟩
set_option maxRecDepth 100000 in
set_option maxHeartbeats 4000000 in
theorem of_5_l3 (w : World) {o : Col} {c : Nat} (ao : Option Addr) (cap : Nat) (l : List Int) (k : Nat) (hk : l.length = k + 3) (hm : k ≤ 17600000000000) (h : Ints w o c (.slice ao (k + 3) cap) l) : Calls Try.prog 22 #[.int .u8 5, .slice ao (k + 3) cap] w (OfNo w 61) := by
 obtain ⟨b, off, rfl, -, hcap, -, -, hc⟩ := h.at (by omega)
 have c0 := hc 0 (by omega)
 have c1 := hc 1 (by omega)
 generalize l[0]?.getD 0 = x at c0
 generalize l[1]?.getD 0 = y at c1
 have hkk : (k : Int) ≤ 17600000000000 := by omega
 rw [Nat.add_zero] at c0
 clear hc h hk
 go_enter Try.func22, Try.ntmps22
 go_wp2_with (go_at_call 63; (first | ((with_reducible refine (within_yes _ _ _ ?_ ?_).mono ?_); (focus omega); (focus omega)) | ((with_reducible refine (within_no _ _ _ ?_).mono ?_); (focus omega))); rintro e w' ⟨rfl, rfl⟩)
 go_ret3
 exact ⟨rfl, Below.refl _ _⟩
set_option maxRecDepth 100000 in
set_option maxHeartbeats 4000000 in
theorem of_6_l0 (w : World) (ao : Option Addr) (cap : Nat) : Calls Try.prog 22 #[.int .u8 6, .slice ao 0 cap] w (OfNo w 61) := by
 go_enter Try.func22, Try.ntmps22
 go_wp2_with (go_at_call 63; (first | ((with_reducible refine (within_yes _ _ _ ?_ ?_).mono ?_); (focus omega); (focus omega)) | ((with_reducible refine (within_no _ _ _ ?_).mono ?_); (focus omega))); rintro e w' ⟨rfl, rfl⟩)
 go_ret3
 exact ⟨rfl, Below.refl _ _⟩
set_option maxRecDepth 100000 in
set_option maxHeartbeats 4000000 in
theorem of_6_l1y (w : World) {o : Col} {c : Nat} (ao : Option Addr) (cap : Nat) (n : Nat) (h1 : 1 ≤ n) (h2 : n ≤ 16) (h : Ints w o c (.slice ao 1 cap) [(n : Int)]) : Calls Try.prog 22 #[.int .u8 6, .slice ao 1 cap] w (OfOk w 6 [(n : Int)]) := by
 obtain ⟨b, off, rfl, -, hcap, -, -, hc⟩ := h.at (by simp)
 have c0 := hc 0 (by simp)
 simp at c0
 clear hc h
 have h1i : (1 : Int) ≤ n := by omega
 have h2i : (n : Int) ≤ 16 := by omega
 go_enter Try.func22, Try.ntmps22
 go_wp2_with (go_at_call 63; (first | ((with_reducible refine (within_yes _ _ _ ?_ ?_).mono ?_); (focus omega); (focus omega)) | ((with_reducible refine (within_no _ _ _ ?_).mono ?_); (focus omega))); rintro e w' ⟨rfl, rfl⟩)
 refine (same_any _ n 1 (by omega)).mono ?_
 rintro e w1 ⟨g1, c1, rfl, ho1, hb1⟩
 go_wp2_with fail
 refine (ports_any _ _ _ _ [1] (ints_box _ [1] (by simp))  (by simp)).mono ?_
 rintro e w2 ⟨g2, c2, rfl, ho2, hb2⟩
 go_wp2
 go_ret3
 exact ⟨_, _, rfl, by simpa [insP, outsP, hd, hd1] using of_fin (by first | exact Below.refl _ _ | exact (Below.refl _ _).alloc (Nat.le_refl _) _) ho1 hb1 (by first | exact Below.refl _ _ | exact (Below.refl _ _).alloc (Nat.le_refl _) _) ho2 hb2⟩
set_option maxRecDepth 100000 in
set_option maxHeartbeats 4000000 in
theorem of_6_l1n (w : World) {o : Col} {c : Nat} (ao : Option Addr) (cap : Nat) (x : Int) (h1 : x < 1 ∨ 16 < x) (h : Ints w o c (.slice ao 1 cap) [x]) : Calls Try.prog 22 #[.int .u8 6, .slice ao 1 cap] w (OfNo w 61) := by
 obtain ⟨b, off, rfl, -, hcap, -, -, hc⟩ := h.at (by simp)
 have c0 := hc 0 (by simp)
 simp at c0
 clear hc h
 go_enter Try.func22, Try.ntmps22
 go_wp2_with (go_at_call 63; (first | ((with_reducible refine (within_yes _ _ _ ?_ ?_).mono ?_); (focus omega); (focus omega)) | ((with_reducible refine (within_no _ _ _ ?_).mono ?_); (focus omega))); rintro e w' ⟨rfl, rfl⟩)
 go_ret3
 exact ⟨rfl, Below.refl _ _⟩
set_option maxRecDepth 100000 in
set_option maxHeartbeats 4000000 in
theorem of_6_l2 (w : World) {o : Col} {c : Nat} (ao : Option Addr) (cap : Nat) (x y : Int) (h : Ints w o c (.slice ao 2 cap) [x, y]) : Calls Try.prog 22 #[.int .u8 6, .slice ao 2 cap] w (OfNo w 61) := by
 obtain ⟨b, off, rfl, -, hcap, -, -, hc⟩ := h.at (by simp)
 have c0 := hc 0 (by simp)
 have c1 := hc 1 (by simp)
 simp at c0 c1
 clear hc h
 have hcase : (x < 1 ∨ 16 < x) ∨ ((1 ≤ x ∧ x ≤ 16) ∧ (y < 1 ∨ 64 < y)) ∨ ((1 ≤ x ∧ x ≤ 16) ∧ (1 ≤ y ∧ y ≤ 64) ∧ 0 ≤ x * y ∧ x * y ≤ 64) ∨ ((1 ≤ x ∧ x ≤ 16) ∧ (1 ≤ y ∧ y ≤ 64) ∧ 64 < x * y ∧ x * y ≤ 1024) := pair_cases x y
 rcases hcase with hx | ⟨hx, hy⟩ | ⟨hx, hy, hz, hz2⟩ | ⟨hx, hy, hz, hz2⟩
 all_goals
  go_enter Try.func22, Try.ntmps22
  go_wp2_with (go_at_call 63; (first | ((with_reducible refine (within_yes _ _ _ ?_ ?_).mono ?_); (focus omega); (focus omega)) | ((with_reducible refine (within_no _ _ _ ?_).mono ?_); (focus omega))); rintro e w' ⟨rfl, rfl⟩)
  go_ret3
  exact ⟨rfl, Below.refl _ _⟩
set_option maxRecDepth 100000 in
set_option maxHeartbeats 4000000 in
theorem of_6_l3 (w : World) {o : Col} {c : Nat} (ao : Option Addr) (cap : Nat) (l : List Int) (k : Nat) (hk : l.length = k + 3) (hm : k ≤ 17600000000000) (h : Ints w o c (.slice ao (k + 3) cap) l) : Calls Try.prog 22 #[.int .u8 6, .slice ao (k + 3) cap] w (OfNo w 61) := by
 obtain ⟨b, off, rfl, -, hcap, -, -, hc⟩ := h.at (by omega)
 have c0 := hc 0 (by omega)
 have c1 := hc 1 (by omega)
 generalize l[0]?.getD 0 = x at c0
 generalize l[1]?.getD 0 = y at c1
 have hkk : (k : Int) ≤ 17600000000000 := by omega
 rw [Nat.add_zero] at c0
 clear hc h hk
 go_enter Try.func22, Try.ntmps22
 go_wp2_with (go_at_call 63; (first | ((with_reducible refine (within_yes _ _ _ ?_ ?_).mono ?_); (focus omega); (focus omega)) | ((with_reducible refine (within_no _ _ _ ?_).mono ?_); (focus omega))); rintro e w' ⟨rfl, rfl⟩)
 go_ret3
 exact ⟨rfl, Below.refl _ _⟩
set_option maxRecDepth 100000 in
set_option maxHeartbeats 4000000 in
theorem of_7_l0 (w : World) (ao : Option Addr) (cap : Nat) : Calls Try.prog 22 #[.int .u8 7, .slice ao 0 cap] w (OfOk w 7 []) := by
 go_enter Try.func22, Try.ntmps22
 go_wp2_with (go_at_call 63; (first | ((with_reducible refine (within_yes _ _ _ ?_ ?_).mono ?_); (focus omega); (focus omega)) | ((with_reducible refine (within_no _ _ _ ?_).mono ?_); (focus omega))); rintro e w' ⟨rfl, rfl⟩)
 refine (ports_any _ _ _ _ [1, 1] (ints_box _ [1, 1] (by simp))  (by simp)).mono ?_
 rintro e w1 ⟨g1, c1, rfl, ho1, hb1⟩
 go_wp2_with fail
 refine (ports_any _ _ _ _ [1] (ints_box _ [1] (by simp))  (by simp)).mono ?_
 rintro e w2 ⟨g2, c2, rfl, ho2, hb2⟩
 go_wp2
 go_ret3
 exact ⟨_, _, rfl, by simpa [insP, outsP, hd, hd1] using of_fin (by first | exact Below.refl _ _ | exact (Below.refl _ _).alloc (Nat.le_refl _) _) ho1 hb1 (by first | exact Below.refl _ _ | exact (Below.refl _ _).alloc (Nat.le_refl _) _) ho2 hb2⟩
set_option maxRecDepth 100000 in
set_option maxHeartbeats 4000000 in
theorem of_7_l1 (w : World) {o : Col} {c : Nat} (ao : Option Addr) (cap : Nat) (x : Int) (h : Ints w o c (.slice ao 1 cap) [x]) : Calls Try.prog 22 #[.int .u8 7, .slice ao 1 cap] w (OfNo w 61) := by
 obtain ⟨b, off, rfl, -, hcap, -, -, hc⟩ := h.at (by simp)
 have c0 := hc 0 (by simp)
 simp at c0
 clear hc h
 go_enter Try.func22, Try.ntmps22
 go_wp2_with (go_at_call 63; (first | ((with_reducible refine (within_yes _ _ _ ?_ ?_).mono ?_); (focus omega); (focus omega)) | ((with_reducible refine (within_no _ _ _ ?_).mono ?_); (focus omega))); rintro e w' ⟨rfl, rfl⟩)
 go_ret3
 exact ⟨rfl, Below.refl _ _⟩
set_option maxRecDepth 100000 in
set_option maxHeartbeats 4000000 in
theorem of_7_l2 (w : World) {o : Col} {c : Nat} (ao : Option Addr) (cap : Nat) (x y : Int) (h : Ints w o c (.slice ao 2 cap) [x, y]) : Calls Try.prog 22 #[.int .u8 7, .slice ao 2 cap] w (OfNo w 61) := by
 obtain ⟨b, off, rfl, -, hcap, -, -, hc⟩ := h.at (by simp)
 have c0 := hc 0 (by simp)
 have c1 := hc 1 (by simp)
 simp at c0 c1
 clear hc h
 have hcase : (x < 1 ∨ 16 < x) ∨ ((1 ≤ x ∧ x ≤ 16) ∧ (y < 1 ∨ 64 < y)) ∨ ((1 ≤ x ∧ x ≤ 16) ∧ (1 ≤ y ∧ y ≤ 64) ∧ 0 ≤ x * y ∧ x * y ≤ 64) ∨ ((1 ≤ x ∧ x ≤ 16) ∧ (1 ≤ y ∧ y ≤ 64) ∧ 64 < x * y ∧ x * y ≤ 1024) := pair_cases x y
 rcases hcase with hx | ⟨hx, hy⟩ | ⟨hx, hy, hz, hz2⟩ | ⟨hx, hy, hz, hz2⟩
 all_goals
  go_enter Try.func22, Try.ntmps22
  go_wp2_with (go_at_call 63; (first | ((with_reducible refine (within_yes _ _ _ ?_ ?_).mono ?_); (focus omega); (focus omega)) | ((with_reducible refine (within_no _ _ _ ?_).mono ?_); (focus omega))); rintro e w' ⟨rfl, rfl⟩)
  go_ret3
  exact ⟨rfl, Below.refl _ _⟩
set_option maxRecDepth 100000 in
set_option maxHeartbeats 4000000 in
theorem of_7_l3 (w : World) {o : Col} {c : Nat} (ao : Option Addr) (cap : Nat) (l : List Int) (k : Nat) (hk : l.length = k + 3) (hm : k ≤ 17600000000000) (h : Ints w o c (.slice ao (k + 3) cap) l) : Calls Try.prog 22 #[.int .u8 7, .slice ao (k + 3) cap] w (OfNo w 61) := by
 obtain ⟨b, off, rfl, -, hcap, -, -, hc⟩ := h.at (by omega)
 have c0 := hc 0 (by omega)
 have c1 := hc 1 (by omega)
 generalize l[0]?.getD 0 = x at c0
 generalize l[1]?.getD 0 = y at c1
 have hkk : (k : Int) ≤ 17600000000000 := by omega
 rw [Nat.add_zero] at c0
 clear hc h hk
 go_enter Try.func22, Try.ntmps22
 go_wp2_with (go_at_call 63; (first | ((with_reducible refine (within_yes _ _ _ ?_ ?_).mono ?_); (focus omega); (focus omega)) | ((with_reducible refine (within_no _ _ _ ?_).mono ?_); (focus omega))); rintro e w' ⟨rfl, rfl⟩)
 go_ret3
 exact ⟨rfl, Below.refl _ _⟩
set_option maxRecDepth 100000 in
set_option maxHeartbeats 4000000 in
theorem of_8_l0 (w : World) (ao : Option Addr) (cap : Nat) : Calls Try.prog 22 #[.int .u8 8, .slice ao 0 cap] w (OfOk w 8 []) := by
 go_enter Try.func22, Try.ntmps22
 go_wp2_with (go_at_call 63; (first | ((with_reducible refine (within_yes _ _ _ ?_ ?_).mono ?_); (focus omega); (focus omega)) | ((with_reducible refine (within_no _ _ _ ?_).mono ?_); (focus omega))); rintro e w' ⟨rfl, rfl⟩)
 refine (ports_any _ _ _ _ [1] (ints_box _ [1] (by simp))  (by simp)).mono ?_
 rintro e w1 ⟨g1, c1, rfl, ho1, hb1⟩
 go_wp2_with fail
 refine (ports_any _ _ _ _ [1] (ints_box _ [1] (by simp))  (by simp)).mono ?_
 rintro e w2 ⟨g2, c2, rfl, ho2, hb2⟩
 go_wp2
 go_ret3
 exact ⟨_, _, rfl, by simpa [insP, outsP, hd, hd1] using of_fin (by first | exact Below.refl _ _ | exact (Below.refl _ _).alloc (Nat.le_refl _) _) ho1 hb1 (by first | exact Below.refl _ _ | exact (Below.refl _ _).alloc (Nat.le_refl _) _) ho2 hb2⟩
set_option maxRecDepth 100000 in
set_option maxHeartbeats 4000000 in
theorem of_8_l1 (w : World) {o : Col} {c : Nat} (ao : Option Addr) (cap : Nat) (x : Int) (h : Ints w o c (.slice ao 1 cap) [x]) : Calls Try.prog 22 #[.int .u8 8, .slice ao 1 cap] w (OfNo w 61) := by
 obtain ⟨b, off, rfl, -, hcap, -, -, hc⟩ := h.at (by simp)
 have c0 := hc 0 (by simp)
 simp at c0
 clear hc h
 go_enter Try.func22, Try.ntmps22
 go_wp2_with (go_at_call 63; (first | ((with_reducible refine (within_yes _ _ _ ?_ ?_).mono ?_); (focus omega); (focus omega)) | ((with_reducible refine (within_no _ _ _ ?_).mono ?_); (focus omega))); rintro e w' ⟨rfl, rfl⟩)
 go_ret3
 exact ⟨rfl, Below.refl _ _⟩
set_option maxRecDepth 100000 in
set_option maxHeartbeats 4000000 in
theorem of_8_l2 (w : World) {o : Col} {c : Nat} (ao : Option Addr) (cap : Nat) (x y : Int) (h : Ints w o c (.slice ao 2 cap) [x, y]) : Calls Try.prog 22 #[.int .u8 8, .slice ao 2 cap] w (OfNo w 61) := by
 obtain ⟨b, off, rfl, -, hcap, -, -, hc⟩ := h.at (by simp)
 have c0 := hc 0 (by simp)
 have c1 := hc 1 (by simp)
 simp at c0 c1
 clear hc h
 have hcase : (x < 1 ∨ 16 < x) ∨ ((1 ≤ x ∧ x ≤ 16) ∧ (y < 1 ∨ 64 < y)) ∨ ((1 ≤ x ∧ x ≤ 16) ∧ (1 ≤ y ∧ y ≤ 64) ∧ 0 ≤ x * y ∧ x * y ≤ 64) ∨ ((1 ≤ x ∧ x ≤ 16) ∧ (1 ≤ y ∧ y ≤ 64) ∧ 64 < x * y ∧ x * y ≤ 1024) := pair_cases x y
 rcases hcase with hx | ⟨hx, hy⟩ | ⟨hx, hy, hz, hz2⟩ | ⟨hx, hy, hz, hz2⟩
 all_goals
  go_enter Try.func22, Try.ntmps22
  go_wp2_with (go_at_call 63; (first | ((with_reducible refine (within_yes _ _ _ ?_ ?_).mono ?_); (focus omega); (focus omega)) | ((with_reducible refine (within_no _ _ _ ?_).mono ?_); (focus omega))); rintro e w' ⟨rfl, rfl⟩)
  go_ret3
  exact ⟨rfl, Below.refl _ _⟩
set_option maxRecDepth 100000 in
set_option maxHeartbeats 4000000 in
theorem of_8_l3 (w : World) {o : Col} {c : Nat} (ao : Option Addr) (cap : Nat) (l : List Int) (k : Nat) (hk : l.length = k + 3) (hm : k ≤ 17600000000000) (h : Ints w o c (.slice ao (k + 3) cap) l) : Calls Try.prog 22 #[.int .u8 8, .slice ao (k + 3) cap] w (OfNo w 61) := by
 obtain ⟨b, off, rfl, -, hcap, -, -, hc⟩ := h.at (by omega)
 have c0 := hc 0 (by omega)
 have c1 := hc 1 (by omega)
 generalize l[0]?.getD 0 = x at c0
 generalize l[1]?.getD 0 = y at c1
 have hkk : (k : Int) ≤ 17600000000000 := by omega
 rw [Nat.add_zero] at c0
 clear hc h hk
 go_enter Try.func22, Try.ntmps22
 go_wp2_with (go_at_call 63; (first | ((with_reducible refine (within_yes _ _ _ ?_ ?_).mono ?_); (focus omega); (focus omega)) | ((with_reducible refine (within_no _ _ _ ?_).mono ?_); (focus omega))); rintro e w' ⟨rfl, rfl⟩)
 go_ret3
 exact ⟨rfl, Below.refl _ _⟩
set_option maxRecDepth 100000 in
set_option maxHeartbeats 4000000 in
theorem of_9_l0 (w : World) (ao : Option Addr) (cap : Nat) : Calls Try.prog 22 #[.int .u8 9, .slice ao 0 cap] w (OfNo w 61) := by
 go_enter Try.func22, Try.ntmps22
 go_wp2_with (go_at_call 63; (first | ((with_reducible refine (within_yes _ _ _ ?_ ?_).mono ?_); (focus omega); (focus omega)) | ((with_reducible refine (within_no _ _ _ ?_).mono ?_); (focus omega))); rintro e w' ⟨rfl, rfl⟩)
 go_ret3
 exact ⟨rfl, Below.refl _ _⟩
set_option maxRecDepth 100000 in
set_option maxHeartbeats 4000000 in
theorem of_9_l1y (w : World) {o : Col} {c : Nat} (ao : Option Addr) (cap : Nat) (n : Nat) (h1 : 1 ≤ n) (h2 : n ≤ 16) (h : Ints w o c (.slice ao 1 cap) [(n : Int)]) : Calls Try.prog 22 #[.int .u8 9, .slice ao 1 cap] w (OfOk w 9 [(n : Int)]) := by
 obtain ⟨b, off, rfl, -, hcap, -, -, hc⟩ := h.at (by simp)
 have c0 := hc 0 (by simp)
 simp at c0
 clear hc h
 have h1i : (1 : Int) ≤ n := by omega
 have h2i : (n : Int) ≤ 16 := by omega
 go_enter Try.func22, Try.ntmps22
 go_wp2_with (go_at_call 63; (first | ((with_reducible refine (within_yes _ _ _ ?_ ?_).mono ?_); (focus omega); (focus omega)) | ((with_reducible refine (within_no _ _ _ ?_).mono ?_); (focus omega))); rintro e w' ⟨rfl, rfl⟩)
 refine (ports_any _ _ _ _ [1] (ints_box _ [1] (by simp))  (by simp)).mono ?_
 rintro e w1 ⟨g1, c1, rfl, ho1, hb1⟩
 go_wp2_with fail
 refine (same_any _ n 1 (by omega)).mono ?_
 rintro e w2 ⟨g2, c2, rfl, ho2, hb2⟩
 go_wp2
 go_ret3
 exact ⟨_, _, rfl, by simpa [insP, outsP, hd, hd1] using of_fin (by first | exact Below.refl _ _ | exact (Below.refl _ _).alloc (Nat.le_refl _) _) ho1 hb1 (by first | exact Below.refl _ _ | exact (Below.refl _ _).alloc (Nat.le_refl _) _) ho2 hb2⟩
set_option maxRecDepth 100000 in
set_option maxHeartbeats 4000000 in
theorem of_9_l1n (w : World) {o : Col} {c : Nat} (ao : Option Addr) (cap : Nat) (x : Int) (h1 : x < 1 ∨ 16 < x) (h : Ints w o c (.slice ao 1 cap) [x]) : Calls Try.prog 22 #[.int .u8 9, .slice ao 1 cap] w (OfNo w 61) := by
 obtain ⟨b, off, rfl, -, hcap, -, -, hc⟩ := h.at (by simp)
 have c0 := hc 0 (by simp)
 simp at c0
 clear hc h
 go_enter Try.func22, Try.ntmps22
 go_wp2_with (go_at_call 63; (first | ((with_reducible refine (within_yes _ _ _ ?_ ?_).mono ?_); (focus omega); (focus omega)) | ((with_reducible refine (within_no _ _ _ ?_).mono ?_); (focus omega))); rintro e w' ⟨rfl, rfl⟩)
 go_ret3
 exact ⟨rfl, Below.refl _ _⟩
set_option maxRecDepth 100000 in
set_option maxHeartbeats 4000000 in
theorem of_9_l2 (w : World) {o : Col} {c : Nat} (ao : Option Addr) (cap : Nat) (x y : Int) (h : Ints w o c (.slice ao 2 cap) [x, y]) : Calls Try.prog 22 #[.int .u8 9, .slice ao 2 cap] w (OfNo w 61) := by
 obtain ⟨b, off, rfl, -, hcap, -, -, hc⟩ := h.at (by simp)
 have c0 := hc 0 (by simp)
 have c1 := hc 1 (by simp)
 simp at c0 c1
 clear hc h
 have hcase : (x < 1 ∨ 16 < x) ∨ ((1 ≤ x ∧ x ≤ 16) ∧ (y < 1 ∨ 64 < y)) ∨ ((1 ≤ x ∧ x ≤ 16) ∧ (1 ≤ y ∧ y ≤ 64) ∧ 0 ≤ x * y ∧ x * y ≤ 64) ∨ ((1 ≤ x ∧ x ≤ 16) ∧ (1 ≤ y ∧ y ≤ 64) ∧ 64 < x * y ∧ x * y ≤ 1024) := pair_cases x y
 rcases hcase with hx | ⟨hx, hy⟩ | ⟨hx, hy, hz, hz2⟩ | ⟨hx, hy, hz, hz2⟩
 all_goals
  go_enter Try.func22, Try.ntmps22
  go_wp2_with (go_at_call 63; (first | ((with_reducible refine (within_yes _ _ _ ?_ ?_).mono ?_); (focus omega); (focus omega)) | ((with_reducible refine (within_no _ _ _ ?_).mono ?_); (focus omega))); rintro e w' ⟨rfl, rfl⟩)
  go_ret3
  exact ⟨rfl, Below.refl _ _⟩
set_option maxRecDepth 100000 in
set_option maxHeartbeats 4000000 in
theorem of_9_l3 (w : World) {o : Col} {c : Nat} (ao : Option Addr) (cap : Nat) (l : List Int) (k : Nat) (hk : l.length = k + 3) (hm : k ≤ 17600000000000) (h : Ints w o c (.slice ao (k + 3) cap) l) : Calls Try.prog 22 #[.int .u8 9, .slice ao (k + 3) cap] w (OfNo w 61) := by
 obtain ⟨b, off, rfl, -, hcap, -, -, hc⟩ := h.at (by omega)
 have c0 := hc 0 (by omega)
 have c1 := hc 1 (by omega)
 generalize l[0]?.getD 0 = x at c0
 generalize l[1]?.getD 0 = y at c1
 have hkk : (k : Int) ≤ 17600000000000 := by omega
 rw [Nat.add_zero] at c0
 clear hc h hk
 go_enter Try.func22, Try.ntmps22
 go_wp2_with (go_at_call 63; (first | ((with_reducible refine (within_yes _ _ _ ?_ ?_).mono ?_); (focus omega); (focus omega)) | ((with_reducible refine (within_no _ _ _ ?_).mono ?_); (focus omega))); rintro e w' ⟨rfl, rfl⟩)
 go_ret3
 exact ⟨rfl, Below.refl _ _⟩
set_option maxRecDepth 100000 in
set_option maxHeartbeats 4000000 in
theorem of_10_l0 (w : World) (ao : Option Addr) (cap : Nat) : Calls Try.prog 22 #[.int .u8 10, .slice ao 0 cap] w (OfNo w 61) := by
 go_enter Try.func22, Try.ntmps22
 go_wp2_with (go_at_call 63; (first | ((with_reducible refine (within_yes _ _ _ ?_ ?_).mono ?_); (focus omega); (focus omega)) | ((with_reducible refine (within_no _ _ _ ?_).mono ?_); (focus omega))); rintro e w' ⟨rfl, rfl⟩)
 go_ret3
 exact ⟨rfl, Below.refl _ _⟩
set_option maxRecDepth 100000 in
set_option maxHeartbeats 4000000 in
theorem of_10_l1 (w : World) {o : Col} {c : Nat} (ao : Option Addr) (cap : Nat) (x : Int) (h : Ints w o c (.slice ao 1 cap) [x]) : Calls Try.prog 22 #[.int .u8 10, .slice ao 1 cap] w (OfNo w 61) := by
 obtain ⟨b, off, rfl, -, hcap, -, -, hc⟩ := h.at (by simp)
 have c0 := hc 0 (by simp)
 simp at c0
 clear hc h
 go_enter Try.func22, Try.ntmps22
 go_wp2_with (go_at_call 63; (first | ((with_reducible refine (within_yes _ _ _ ?_ ?_).mono ?_); (focus omega); (focus omega)) | ((with_reducible refine (within_no _ _ _ ?_).mono ?_); (focus omega))); rintro e w' ⟨rfl, rfl⟩)
 go_ret3
 exact ⟨rfl, Below.refl _ _⟩
set_option maxRecDepth 100000 in
set_option maxHeartbeats 4000000 in
theorem of_10_l2 (w : World) {o : Col} {c : Nat} (ao : Option Addr) (cap : Nat) (x y : Int) (h : Ints w o c (.slice ao 2 cap) [x, y]) : Calls Try.prog 22 #[.int .u8 10, .slice ao 2 cap] w (OfOk w 10 [x, y]) := by
 obtain ⟨b, off, rfl, -, hcap, -, -, hc⟩ := h.at (by simp)
 have c0 := hc 0 (by simp)
 have c1 := hc 1 (by simp)
 simp at c0 c1
 clear hc h
 have hcase : (x < 1 ∨ 16 < x) ∨ ((1 ≤ x ∧ x ≤ 16) ∧ (y < 1 ∨ 64 < y)) ∨ ((1 ≤ x ∧ x ≤ 16) ∧ (1 ≤ y ∧ y ≤ 64) ∧ 0 ≤ x * y ∧ x * y ≤ 64) ∨ ((1 ≤ x ∧ x ≤ 16) ∧ (1 ≤ y ∧ y ≤ 64) ∧ 64 < x * y ∧ x * y ≤ 1024) := pair_cases x y
 rcases hcase with hx | ⟨hx, hy⟩ | ⟨hx, hy, hz, hz2⟩ | ⟨hx, hy, hz, hz2⟩
 all_goals
  go_enter Try.func22, Try.ntmps22
  go_wp2_with (go_at_call 63; (first | ((with_reducible refine (within_yes _ _ _ ?_ ?_).mono ?_); (focus omega); (focus omega)) | ((with_reducible refine (within_no _ _ _ ?_).mono ?_); (focus omega))); rintro e w' ⟨rfl, rfl⟩)
  refine (ports_any _ _ _ _ [1] (ints_box _ [1] (by simp))  (by simp)).mono ?_
  rintro e w1 ⟨g1, c1, rfl, ho1, hb1⟩
  go_wp2
  go_ret3
  exact ⟨_, _, rfl, World.ownsRow_nil _ _ _ _, by simpa [insP, outsP, hd, hd1] using of_fin1 (by first | exact Below.refl _ _ | exact (Below.refl _ _).alloc (Nat.le_refl _) _) ho1 hb1⟩
set_option maxRecDepth 100000 in
set_option maxHeartbeats 4000000 in
theorem of_10_l3 (w : World) {o : Col} {c : Nat} (ao : Option Addr) (cap : Nat) (l : List Int) (k : Nat) (hk : l.length = k + 3) (hm : k ≤ 17600000000000) (h : Ints w o c (.slice ao (k + 3) cap) l) : Calls Try.prog 22 #[.int .u8 10, .slice ao (k + 3) cap] w (OfNo w 61) := by
 obtain ⟨b, off, rfl, -, hcap, -, -, hc⟩ := h.at (by omega)
 have c0 := hc 0 (by omega)
 have c1 := hc 1 (by omega)
 generalize l[0]?.getD 0 = x at c0
 generalize l[1]?.getD 0 = y at c1
 have hkk : (k : Int) ≤ 17600000000000 := by omega
 rw [Nat.add_zero] at c0
 clear hc h hk
 go_enter Try.func22, Try.ntmps22
 go_wp2_with (go_at_call 63; (first | ((with_reducible refine (within_yes _ _ _ ?_ ?_).mono ?_); (focus omega); (focus omega)) | ((with_reducible refine (within_no _ _ _ ?_).mono ?_); (focus omega))); rintro e w' ⟨rfl, rfl⟩)
 go_ret3
 exact ⟨rfl, Below.refl _ _⟩
set_option maxRecDepth 100000 in
set_option maxHeartbeats 4000000 in
theorem of_11_l0 (w : World) (ao : Option Addr) (cap : Nat) : Calls Try.prog 22 #[.int .u8 11, .slice ao 0 cap] w (OfNo w 61) := by
 go_enter Try.func22, Try.ntmps22
 go_wp2_with (go_at_call 63; (first | ((with_reducible refine (within_yes _ _ _ ?_ ?_).mono ?_); (focus omega); (focus omega)) | ((with_reducible refine (within_no _ _ _ ?_).mono ?_); (focus omega))); rintro e w' ⟨rfl, rfl⟩)
 go_ret3
 exact ⟨rfl, Below.refl _ _⟩
set_option maxRecDepth 100000 in
set_option maxHeartbeats 4000000 in
theorem of_11_l1y (w : World) {o : Col} {c : Nat} (ao : Option Addr) (cap : Nat) (x : Int) (h1 : 1 ≤ x) (h2 : x ≤ 64) (h : Ints w o c (.slice ao 1 cap) [x]) : Calls Try.prog 22 #[.int .u8 11, .slice ao 1 cap] w (OfOk w 11 [x]) := by
 obtain ⟨b, off, rfl, -, hcap, -, -, hc⟩ := h.at (by simp)
 have c0 := hc 0 (by simp)
 simp at c0
 clear hc h
 go_enter Try.func22, Try.ntmps22
 go_wp2_with (go_at_call 63; (first | ((with_reducible refine (within_yes _ _ _ ?_ ?_).mono ?_); (focus omega); (focus omega)) | ((with_reducible refine (within_no _ _ _ ?_).mono ?_); (focus omega))); rintro e w' ⟨rfl, rfl⟩)
 refine (ports_any _ _ _ _ [x] (ints_box _ [x] (by simp))  (by simp)).mono ?_
 rintro e w1 ⟨g1, c1, rfl, ho1, hb1⟩
 go_wp2
 go_ret3
 have hf := of_fin1 (w := w) (by first | exact Below.refl _ _ | exact (Below.refl _ _).alloc (Nat.le_refl _) _) ho1 hb1
 exact ⟨_, _, rfl, by simpa [insP, outsP, hd, hd1] using hf.1, World.ownsRow_nil _ _ _ _, hf.2⟩
set_option maxRecDepth 100000 in
set_option maxHeartbeats 4000000 in
theorem of_11_l1n (w : World) {o : Col} {c : Nat} (ao : Option Addr) (cap : Nat) (x : Int) (h1 : x < 1 ∨ 64 < x) (h : Ints w o c (.slice ao 1 cap) [x]) : Calls Try.prog 22 #[.int .u8 11, .slice ao 1 cap] w (OfNo w 61) := by
 obtain ⟨b, off, rfl, -, hcap, -, -, hc⟩ := h.at (by simp)
 have c0 := hc 0 (by simp)
 simp at c0
 clear hc h
 go_enter Try.func22, Try.ntmps22
 go_wp2_with (go_at_call 63; (first | ((with_reducible refine (within_yes _ _ _ ?_ ?_).mono ?_); (focus omega); (focus omega)) | ((with_reducible refine (within_no _ _ _ ?_).mono ?_); (focus omega))); rintro e w' ⟨rfl, rfl⟩)
 go_ret3
 exact ⟨rfl, Below.refl _ _⟩
set_option maxRecDepth 100000 in
set_option maxHeartbeats 4000000 in
theorem of_11_l2 (w : World) {o : Col} {c : Nat} (ao : Option Addr) (cap : Nat) (x y : Int) (h : Ints w o c (.slice ao 2 cap) [x, y]) : Calls Try.prog 22 #[.int .u8 11, .slice ao 2 cap] w (OfNo w 61) := by
 obtain ⟨b, off, rfl, -, hcap, -, -, hc⟩ := h.at (by simp)
 have c0 := hc 0 (by simp)
 have c1 := hc 1 (by simp)
 simp at c0 c1
 clear hc h
 have hcase : (x < 1 ∨ 16 < x) ∨ ((1 ≤ x ∧ x ≤ 16) ∧ (y < 1 ∨ 64 < y)) ∨ ((1 ≤ x ∧ x ≤ 16) ∧ (1 ≤ y ∧ y ≤ 64) ∧ 0 ≤ x * y ∧ x * y ≤ 64) ∨ ((1 ≤ x ∧ x ≤ 16) ∧ (1 ≤ y ∧ y ≤ 64) ∧ 64 < x * y ∧ x * y ≤ 1024) := pair_cases x y
 rcases hcase with hx | ⟨hx, hy⟩ | ⟨hx, hy, hz, hz2⟩ | ⟨hx, hy, hz, hz2⟩
 all_goals
  go_enter Try.func22, Try.ntmps22
  go_wp2_with (go_at_call 63; (first | ((with_reducible refine (within_yes _ _ _ ?_ ?_).mono ?_); (focus omega); (focus omega)) | ((with_reducible refine (within_no _ _ _ ?_).mono ?_); (focus omega))); rintro e w' ⟨rfl, rfl⟩)
  go_ret3
  exact ⟨rfl, Below.refl _ _⟩
set_option maxRecDepth 100000 in
set_option maxHeartbeats 4000000 in
theorem of_11_l3 (w : World) {o : Col} {c : Nat} (ao : Option Addr) (cap : Nat) (l : List Int) (k : Nat) (hk : l.length = k + 3) (hm : k ≤ 17600000000000) (h : Ints w o c (.slice ao (k + 3) cap) l) : Calls Try.prog 22 #[.int .u8 11, .slice ao (k + 3) cap] w (OfNo w 61) := by
 obtain ⟨b, off, rfl, -, hcap, -, -, hc⟩ := h.at (by omega)
 have c0 := hc 0 (by omega)
 have c1 := hc 1 (by omega)
 generalize l[0]?.getD 0 = x at c0
 generalize l[1]?.getD 0 = y at c1
 have hkk : (k : Int) ≤ 17600000000000 := by omega
 rw [Nat.add_zero] at c0
 clear hc h hk
 go_enter Try.func22, Try.ntmps22
 go_wp2_with (go_at_call 63; (first | ((with_reducible refine (within_yes _ _ _ ?_ ?_).mono ?_); (focus omega); (focus omega)) | ((with_reducible refine (within_no _ _ _ ?_).mono ?_); (focus omega))); rintro e w' ⟨rfl, rfl⟩)
 go_ret3
 exact ⟨rfl, Below.refl _ _⟩
end Go.Proofs.Ytbmbfifempkhgaa
/- shape.Of, any tag, any parameters. -/
namespace Go.Proofs.Ytbmbfifempkhgaa
open Go.RowKit
theorem of_1_any (w : World) {o : Col} {c : Nat} (ao : Option Addr) (n cap : Nat) (l : List Int) (hl : l.length ≤ 17600000000000) (h : Ints w o c (.slice ao n cap) l) : (goodP 1 l → Calls Try.prog 22 #[.int .u8 1, .slice ao n cap] w (OfOk w 1 l)) ∧ (¬ goodP 1 l → Calls Try.prog 22 #[.int .u8 1, .slice ao n cap] w (OfNo w 61)) := by
 obtain rfl := h.len
 match l, h, hl with
 | [], h, _ =>
  exact ⟨fun hg => absurd hg (by simp [goodP, oneP, pairP, hd, hd1] <;> omega), fun _ => of_1_l0 w ao cap⟩
 | [x], h, _ =>
  exact ⟨fun _ => of_1_l1 w ao cap x h, fun hg => absurd (by simp [goodP, oneP, pairP, hd, hd1] <;> omega) hg⟩
 | [x, y], h, _ =>
  exact ⟨fun _ => of_1_l2 w ao cap x y h, fun hg => absurd (by simp [goodP, oneP, pairP, hd, hd1] <;> omega) hg⟩
 | x :: y :: z :: r, h, hl =>
  simp only [List.length_cons] at hl h ⊢
  by_cases hr : r.length ≤ 13
  ·
   exact ⟨fun _ => of_1_l3y w ao cap _ r.length rfl hr h, fun hg => absurd (by simp [goodP, oneP, pairP, hd, hd1] <;> omega) hg⟩
  ·
   exact ⟨fun hg => absurd hg (by simp [goodP, oneP, pairP, hd, hd1] <;> omega), fun _ => of_1_l3n w ao cap _ r.length rfl (by omega) (by omega) h⟩
theorem of_2_any (w : World) {o : Col} {c : Nat} (ao : Option Addr) (n cap : Nat) (l : List Int) (hl : l.length ≤ 17600000000000) (h : Ints w o c (.slice ao n cap) l) : (goodP 2 l → Calls Try.prog 22 #[.int .u8 2, .slice ao n cap] w (OfOk w 2 l)) ∧ (¬ goodP 2 l → Calls Try.prog 22 #[.int .u8 2, .slice ao n cap] w (OfNo w 61)) := by
 obtain rfl := h.len
 match l, h, hl with
 | [], h, _ =>
  exact ⟨fun hg => absurd hg (by simp [goodP, oneP, pairP, hd, hd1] <;> omega), fun _ => of_2_l0 w ao cap⟩
 | [x], h, _ =>
  by_cases hx : 1 ≤ x ∧ x ≤ 64
  ·
   exact ⟨fun _ => of_2_l1y w ao cap x hx.1 hx.2 h, fun hg => absurd (by simp [goodP, oneP, pairP, hd, hd1] <;> omega) hg⟩
  ·
   exact ⟨fun hg => absurd hg (by simp [goodP, oneP, pairP, hd, hd1] <;> omega), fun _ => of_2_l1n w ao cap x (by omega) h⟩
 | [x, y], h, _ =>
  exact ⟨fun hg => absurd hg (by simp [goodP, oneP, pairP, hd, hd1] <;> omega), fun _ => of_2_l2 w ao cap x y h⟩
 | x :: y :: z :: r, h, hl =>
  simp only [List.length_cons] at hl h ⊢
  exact ⟨fun hg => absurd hg (by simp [goodP, oneP, pairP, hd, hd1] <;> omega), fun _ => of_2_l3 w ao cap _ r.length rfl (by omega) h⟩
theorem of_3_any (w : World) {o : Col} {c : Nat} (ao : Option Addr) (n cap : Nat) (l : List Int) (hl : l.length ≤ 17600000000000) (h : Ints w o c (.slice ao n cap) l) : (goodP 3 l → Calls Try.prog 22 #[.int .u8 3, .slice ao n cap] w (OfOk w 3 l)) ∧ (¬ goodP 3 l → Calls Try.prog 22 #[.int .u8 3, .slice ao n cap] w (OfNo w 61)) := by
 obtain rfl := h.len
 match l, h, hl with
 | [], h, _ =>
  exact ⟨fun hg => absurd hg (by simp [goodP, oneP, pairP, hd, hd1] <;> omega), fun _ => of_3_l0 w ao cap⟩
 | [x], h, _ =>
  by_cases hx : 1 ≤ x ∧ x ≤ 64
  ·
   exact ⟨fun _ => of_3_l1y w ao cap x hx.1 hx.2 h, fun hg => absurd (by simp [goodP, oneP, pairP, hd, hd1] <;> omega) hg⟩
  ·
   exact ⟨fun hg => absurd hg (by simp [goodP, oneP, pairP, hd, hd1] <;> omega), fun _ => of_3_l1n w ao cap x (by omega) h⟩
 | [x, y], h, _ =>
  exact ⟨fun hg => absurd hg (by simp [goodP, oneP, pairP, hd, hd1] <;> omega), fun _ => of_3_l2 w ao cap x y h⟩
 | x :: y :: z :: r, h, hl =>
  simp only [List.length_cons] at hl h ⊢
  exact ⟨fun hg => absurd hg (by simp [goodP, oneP, pairP, hd, hd1] <;> omega), fun _ => of_3_l3 w ao cap _ r.length rfl (by omega) h⟩
theorem of_4_any (w : World) {o : Col} {c : Nat} (ao : Option Addr) (n cap : Nat) (l : List Int) (hl : l.length ≤ 17600000000000) (h : Ints w o c (.slice ao n cap) l) : (goodP 4 l → Calls Try.prog 22 #[.int .u8 4, .slice ao n cap] w (OfOk w 4 l)) ∧ (¬ goodP 4 l → Calls Try.prog 22 #[.int .u8 4, .slice ao n cap] w (OfNo w 61)) := by
 obtain rfl := h.len
 match l, h, hl with
 | [], h, _ =>
  exact ⟨fun hg => absurd hg (by simp [goodP, oneP, pairP, hd, hd1] <;> omega), fun _ => of_4_l0 w ao cap⟩
 | [x], h, _ =>
  exact ⟨fun hg => absurd hg (by simp [goodP, oneP, pairP, hd, hd1] <;> omega), fun _ => of_4_l1 w ao cap x h⟩
 | [x, y], h, _ =>
  rcases pair_cases x y with hc | hc | hc | hc
  ·
   exact ⟨fun hg => absurd hg (by simp [goodP, oneP, pairP, hd, hd1] <;> omega), fun _ => of_4_l2n w ao cap x y (.inl hc) h⟩
  ·
   exact ⟨fun hg => absurd hg (by simp [goodP, oneP, pairP, hd, hd1] <;> omega), fun _ => of_4_l2n w ao cap x y (.inr (.inl hc)) h⟩
  ·
   obtain ⟨u, rfl⟩ : ∃ u : Nat, x = u := ⟨x.toNat, by omega⟩
   obtain ⟨m, rfl⟩ : ∃ m : Nat, y = m := ⟨y.toNat, by omega⟩
   have hum : u * m ≤ 64 := by have := hc.2.2.2; exact_mod_cast this
   exact ⟨fun _ => of_4_l2y w ao cap u m (by omega) (by omega) (by omega) (by omega) hum h, fun hg => absurd (by simp [goodP, oneP, pairP, hd, hd1] <;> omega) hg⟩
  ·
   exact ⟨fun hg => absurd hg (by simp [goodP, oneP, pairP, hd, hd1] <;> omega), fun _ => of_4_l2n w ao cap x y (.inr (.inr hc)) h⟩
 | x :: y :: z :: r, h, hl =>
  simp only [List.length_cons] at hl h ⊢
  exact ⟨fun hg => absurd hg (by simp [goodP, oneP, pairP, hd, hd1] <;> omega), fun _ => of_4_l3 w ao cap _ r.length rfl (by omega) h⟩
theorem of_5_any (w : World) {o : Col} {c : Nat} (ao : Option Addr) (n cap : Nat) (l : List Int) (hl : l.length ≤ 17600000000000) (h : Ints w o c (.slice ao n cap) l) : (goodP 5 l → Calls Try.prog 22 #[.int .u8 5, .slice ao n cap] w (OfOk w 5 l)) ∧ (¬ goodP 5 l → Calls Try.prog 22 #[.int .u8 5, .slice ao n cap] w (OfNo w 61)) := by
 obtain rfl := h.len
 match l, h, hl with
 | [], h, _ =>
  exact ⟨fun hg => absurd hg (by simp [goodP, oneP, pairP, hd, hd1] <;> omega), fun _ => of_5_l0 w ao cap⟩
 | [x], h, _ =>
  exact ⟨fun hg => absurd hg (by simp [goodP, oneP, pairP, hd, hd1] <;> omega), fun _ => of_5_l1 w ao cap x h⟩
 | [x, y], h, _ =>
  rcases pair_cases x y with hc | hc | hc | hc
  ·
   exact ⟨fun hg => absurd hg (by simp [goodP, oneP, pairP, hd, hd1] <;> omega), fun _ => of_5_l2n w ao cap x y (.inl hc) h⟩
  ·
   exact ⟨fun hg => absurd hg (by simp [goodP, oneP, pairP, hd, hd1] <;> omega), fun _ => of_5_l2n w ao cap x y (.inr (.inl hc)) h⟩
  ·
   obtain ⟨u, rfl⟩ : ∃ u : Nat, x = u := ⟨x.toNat, by omega⟩
   obtain ⟨m, rfl⟩ : ∃ m : Nat, y = m := ⟨y.toNat, by omega⟩
   have hum : u * m ≤ 64 := by have := hc.2.2.2; exact_mod_cast this
   exact ⟨fun _ => of_5_l2y w ao cap u m (by omega) (by omega) (by omega) (by omega) hum h, fun hg => absurd (by simp [goodP, oneP, pairP, hd, hd1] <;> omega) hg⟩
  ·
   exact ⟨fun hg => absurd hg (by simp [goodP, oneP, pairP, hd, hd1] <;> omega), fun _ => of_5_l2n w ao cap x y (.inr (.inr hc)) h⟩
 | x :: y :: z :: r, h, hl =>
  simp only [List.length_cons] at hl h ⊢
  exact ⟨fun hg => absurd hg (by simp [goodP, oneP, pairP, hd, hd1] <;> omega), fun _ => of_5_l3 w ao cap _ r.length rfl (by omega) h⟩
theorem of_6_any (w : World) {o : Col} {c : Nat} (ao : Option Addr) (n cap : Nat) (l : List Int) (hl : l.length ≤ 17600000000000) (h : Ints w o c (.slice ao n cap) l) : (goodP 6 l → Calls Try.prog 22 #[.int .u8 6, .slice ao n cap] w (OfOk w 6 l)) ∧ (¬ goodP 6 l → Calls Try.prog 22 #[.int .u8 6, .slice ao n cap] w (OfNo w 61)) := by
 obtain rfl := h.len
 match l, h, hl with
 | [], h, _ =>
  exact ⟨fun hg => absurd hg (by simp [goodP, oneP, pairP, hd, hd1] <;> omega), fun _ => of_6_l0 w ao cap⟩
 | [x], h, _ =>
  by_cases hx : 1 ≤ x ∧ x ≤ 16
  ·
   obtain ⟨u, rfl⟩ : ∃ u : Nat, x = u := ⟨x.toNat, by omega⟩
   exact ⟨fun _ => of_6_l1y w ao cap u (by omega) (by omega) h, fun hg => absurd (by simp [goodP, oneP, pairP, hd, hd1] <;> omega) hg⟩
  ·
   exact ⟨fun hg => absurd hg (by simp [goodP, oneP, pairP, hd, hd1] <;> omega), fun _ => of_6_l1n w ao cap x (by omega) h⟩
 | [x, y], h, _ =>
  exact ⟨fun hg => absurd hg (by simp [goodP, oneP, pairP, hd, hd1] <;> omega), fun _ => of_6_l2 w ao cap x y h⟩
 | x :: y :: z :: r, h, hl =>
  simp only [List.length_cons] at hl h ⊢
  exact ⟨fun hg => absurd hg (by simp [goodP, oneP, pairP, hd, hd1] <;> omega), fun _ => of_6_l3 w ao cap _ r.length rfl (by omega) h⟩
theorem of_7_any (w : World) {o : Col} {c : Nat} (ao : Option Addr) (n cap : Nat) (l : List Int) (hl : l.length ≤ 17600000000000) (h : Ints w o c (.slice ao n cap) l) : (goodP 7 l → Calls Try.prog 22 #[.int .u8 7, .slice ao n cap] w (OfOk w 7 l)) ∧ (¬ goodP 7 l → Calls Try.prog 22 #[.int .u8 7, .slice ao n cap] w (OfNo w 61)) := by
 obtain rfl := h.len
 match l, h, hl with
 | [], h, _ =>
  exact ⟨fun _ => of_7_l0 w ao cap, fun hg => absurd (by simp [goodP, oneP, pairP, hd, hd1] <;> omega) hg⟩
 | [x], h, _ =>
  exact ⟨fun hg => absurd hg (by simp [goodP, oneP, pairP, hd, hd1] <;> omega), fun _ => of_7_l1 w ao cap x h⟩
 | [x, y], h, _ =>
  exact ⟨fun hg => absurd hg (by simp [goodP, oneP, pairP, hd, hd1] <;> omega), fun _ => of_7_l2 w ao cap x y h⟩
 | x :: y :: z :: r, h, hl =>
  simp only [List.length_cons] at hl h ⊢
  exact ⟨fun hg => absurd hg (by simp [goodP, oneP, pairP, hd, hd1] <;> omega), fun _ => of_7_l3 w ao cap _ r.length rfl (by omega) h⟩
theorem of_8_any (w : World) {o : Col} {c : Nat} (ao : Option Addr) (n cap : Nat) (l : List Int) (hl : l.length ≤ 17600000000000) (h : Ints w o c (.slice ao n cap) l) : (goodP 8 l → Calls Try.prog 22 #[.int .u8 8, .slice ao n cap] w (OfOk w 8 l)) ∧ (¬ goodP 8 l → Calls Try.prog 22 #[.int .u8 8, .slice ao n cap] w (OfNo w 61)) := by
 obtain rfl := h.len
 match l, h, hl with
 | [], h, _ =>
  exact ⟨fun _ => of_8_l0 w ao cap, fun hg => absurd (by simp [goodP, oneP, pairP, hd, hd1] <;> omega) hg⟩
 | [x], h, _ =>
  exact ⟨fun hg => absurd hg (by simp [goodP, oneP, pairP, hd, hd1] <;> omega), fun _ => of_8_l1 w ao cap x h⟩
 | [x, y], h, _ =>
  exact ⟨fun hg => absurd hg (by simp [goodP, oneP, pairP, hd, hd1] <;> omega), fun _ => of_8_l2 w ao cap x y h⟩
 | x :: y :: z :: r, h, hl =>
  simp only [List.length_cons] at hl h ⊢
  exact ⟨fun hg => absurd hg (by simp [goodP, oneP, pairP, hd, hd1] <;> omega), fun _ => of_8_l3 w ao cap _ r.length rfl (by omega) h⟩
theorem of_9_any (w : World) {o : Col} {c : Nat} (ao : Option Addr) (n cap : Nat) (l : List Int) (hl : l.length ≤ 17600000000000) (h : Ints w o c (.slice ao n cap) l) : (goodP 9 l → Calls Try.prog 22 #[.int .u8 9, .slice ao n cap] w (OfOk w 9 l)) ∧ (¬ goodP 9 l → Calls Try.prog 22 #[.int .u8 9, .slice ao n cap] w (OfNo w 61)) := by
 obtain rfl := h.len
 match l, h, hl with
 | [], h, _ =>
  exact ⟨fun hg => absurd hg (by simp [goodP, oneP, pairP, hd, hd1] <;> omega), fun _ => of_9_l0 w ao cap⟩
 | [x], h, _ =>
  by_cases hx : 1 ≤ x ∧ x ≤ 16
  ·
   obtain ⟨u, rfl⟩ : ∃ u : Nat, x = u := ⟨x.toNat, by omega⟩
   exact ⟨fun _ => of_9_l1y w ao cap u (by omega) (by omega) h, fun hg => absurd (by simp [goodP, oneP, pairP, hd, hd1] <;> omega) hg⟩
  ·
   exact ⟨fun hg => absurd hg (by simp [goodP, oneP, pairP, hd, hd1] <;> omega), fun _ => of_9_l1n w ao cap x (by omega) h⟩
 | [x, y], h, _ =>
  exact ⟨fun hg => absurd hg (by simp [goodP, oneP, pairP, hd, hd1] <;> omega), fun _ => of_9_l2 w ao cap x y h⟩
 | x :: y :: z :: r, h, hl =>
  simp only [List.length_cons] at hl h ⊢
  exact ⟨fun hg => absurd hg (by simp [goodP, oneP, pairP, hd, hd1] <;> omega), fun _ => of_9_l3 w ao cap _ r.length rfl (by omega) h⟩
theorem of_10_any (w : World) {o : Col} {c : Nat} (ao : Option Addr) (n cap : Nat) (l : List Int) (hl : l.length ≤ 17600000000000) (h : Ints w o c (.slice ao n cap) l) : (goodP 10 l → Calls Try.prog 22 #[.int .u8 10, .slice ao n cap] w (OfOk w 10 l)) ∧ (¬ goodP 10 l → Calls Try.prog 22 #[.int .u8 10, .slice ao n cap] w (OfNo w 61)) := by
 obtain rfl := h.len
 match l, h, hl with
 | [], h, _ =>
  exact ⟨fun hg => absurd hg (by simp [goodP, oneP, pairP, hd, hd1] <;> omega), fun _ => of_10_l0 w ao cap⟩
 | [x], h, _ =>
  exact ⟨fun hg => absurd hg (by simp [goodP, oneP, pairP, hd, hd1] <;> omega), fun _ => of_10_l1 w ao cap x h⟩
 | [x, y], h, _ =>
  exact ⟨fun _ => of_10_l2 w ao cap x y h, fun hg => absurd (by simp [goodP, oneP, pairP, hd, hd1] <;> omega) hg⟩
 | x :: y :: z :: r, h, hl =>
  simp only [List.length_cons] at hl h ⊢
  exact ⟨fun hg => absurd hg (by simp [goodP, oneP, pairP, hd, hd1] <;> omega), fun _ => of_10_l3 w ao cap _ r.length rfl (by omega) h⟩
theorem of_11_any (w : World) {o : Col} {c : Nat} (ao : Option Addr) (n cap : Nat) (l : List Int) (hl : l.length ≤ 17600000000000) (h : Ints w o c (.slice ao n cap) l) : (goodP 11 l → Calls Try.prog 22 #[.int .u8 11, .slice ao n cap] w (OfOk w 11 l)) ∧ (¬ goodP 11 l → Calls Try.prog 22 #[.int .u8 11, .slice ao n cap] w (OfNo w 61)) := by
 obtain rfl := h.len
 match l, h, hl with
 | [], h, _ =>
  exact ⟨fun hg => absurd hg (by simp [goodP, oneP, pairP, hd, hd1] <;> omega), fun _ => of_11_l0 w ao cap⟩
 | [x], h, _ =>
  by_cases hx : 1 ≤ x ∧ x ≤ 64
  ·
   exact ⟨fun _ => of_11_l1y w ao cap x hx.1 hx.2 h, fun hg => absurd (by simp [goodP, oneP, pairP, hd, hd1] <;> omega) hg⟩
  ·
   exact ⟨fun hg => absurd hg (by simp [goodP, oneP, pairP, hd, hd1] <;> omega), fun _ => of_11_l1n w ao cap x (by omega) h⟩
 | [x, y], h, _ =>
  exact ⟨fun hg => absurd hg (by simp [goodP, oneP, pairP, hd, hd1] <;> omega), fun _ => of_11_l2 w ao cap x y h⟩
 | x :: y :: z :: r, h, hl =>
  simp only [List.length_cons] at hl h ⊢
  exact ⟨fun hg => absurd hg (by simp [goodP, oneP, pairP, hd, hd1] <;> omega), fun _ => of_11_l3 w ao cap _ r.length rfl (by omega) h⟩
end Go.Proofs.Ytbmbfifempkhgaa

/- shape.Of, whole. -/
namespace Go.Proofs.Ytbmbfifempkhgaa
open Go.RowKit
theorem of_ok {o : Col} {c : Nat} (w : World) (t : Int) (ao : Option Addr) (n cap : Nat) (ps : List Int) (hg : goodP t ps) (hl : ps.length ≤ 17600000000000) (h : Ints w o c (.slice ao n cap) ps) : Calls Try.prog 22 #[.int .u8 t, .slice ao n cap] w (OfOk w t ps) := by
 rcases goodP_cases hg with rfl | rfl | rfl | rfl | rfl | rfl | rfl | rfl | rfl | rfl | rfl
 ·
  exact (of_1_any w ao n cap ps hl h).1 hg
 ·
  exact (of_2_any w ao n cap ps hl h).1 hg
 ·
  exact (of_3_any w ao n cap ps hl h).1 hg
 ·
  exact (of_4_any w ao n cap ps hl h).1 hg
 ·
  exact (of_5_any w ao n cap ps hl h).1 hg
 ·
  exact (of_6_any w ao n cap ps hl h).1 hg
 ·
  exact (of_7_any w ao n cap ps hl h).1 hg
 ·
  exact (of_8_any w ao n cap ps hl h).1 hg
 ·
  exact (of_9_any w ao n cap ps hl h).1 hg
 ·
  exact (of_10_any w ao n cap ps hl h).1 hg
 ·
  exact (of_11_any w ao n cap ps hl h).1 hg
theorem of_bad {o : Col} {c : Nat} (w : World) (t : Int) (ao : Option Addr) (n cap : Nat) (ps : List Int) (ht : TagOk t) (hg : ¬ goodP t ps) (hl : ps.length ≤ 17600000000000) (h : Ints w o c (.slice ao n cap) ps) : Calls Try.prog 22 #[.int .u8 t, .slice ao n cap] w (OfNo w 61) := by
 rcases ht with rfl | rfl | rfl | rfl | rfl | rfl | rfl | rfl | rfl | rfl | rfl
 ·
  exact (of_1_any w ao n cap ps hl h).2 hg
 ·
  exact (of_2_any w ao n cap ps hl h).2 hg
 ·
  exact (of_3_any w ao n cap ps hl h).2 hg
 ·
  exact (of_4_any w ao n cap ps hl h).2 hg
 ·
  exact (of_5_any w ao n cap ps hl h).2 hg
 ·
  exact (of_6_any w ao n cap ps hl h).2 hg
 ·
  exact (of_7_any w ao n cap ps hl h).2 hg
 ·
  exact (of_8_any w ao n cap ps hl h).2 hg
 ·
  exact (of_9_any w ao n cap ps hl h).2 hg
 ·
  exact (of_10_any w ao n cap ps hl h).2 hg
 ·
  exact (of_11_any w ao n cap ps hl h).2 hg
theorem of_no {o : Col} {c : Nat} (w : World) (t : Int) (ao : Option Addr) (n cap : Nat) (ps : List Int) (hg : ¬ goodP t ps) (hl : ps.length ≤ 17600000000000) (h : Ints w o c (.slice ao n cap) ps) : Calls Try.prog 22 #[.int .u8 t, .slice ao n cap] w (OfNo w (errP t)) := by
 unfold errP
 by_cases ht : 1 ≤ t ∧ t ≤ 11
 ·
  rw [if_pos ht]; exact of_bad w t ao n cap ps (by unfold TagOk; omega) hg hl h
 ·
  rw [if_neg ht]; exact of_tag w t _ (by omega)
end Go.Proofs.Ytbmbfifempkhgaa

/- A region that draws its order: first what only reads; the rest in whatever order, step by step. No program in sight. -/
namespace Go.Proofs.Ytbmbfifempkhgaa
section
variable {P : Program} {md : Region.Mode} {ops : Array Oper} {Q : Exit → Act → World → Prop} {S : World → Prop}
def setAll (l : Array Bool) (r : List Nat) : Array Bool := r.foldl (fun l i => l.setIfInBounds i true) l
def bsOf (ops : Array Oper) (reads M : List Nat) (j : Nat) : Bool := madeB ops j || reads.contains j || M.contains j
def restsOK (md : Region.Mode) (ops : Array Oper) (reads M : List Nat) : Bool :=
 Region.noSelect ops && (reads.all fun i => anyAt ops i || (List.range ops.size).all fun j => madeB ops j || reads.contains j || M.contains j || behindB md ops ops.size j i) &&
 stageHead md ops (fun _ => true) reads (Array.replicate ops.size false)
theorem wpAnyT_reads {reads M : List Nat} {n : Nat} (hsel : Region.noSelect ops = true) (hQ : ∀ c a a' w, Q (.panic c) a w → Q (.panic c) a' w)
  (hbe : ∀ i ∈ reads, anyAt ops i = false → ∀ j, j < ops.size → madeB ops j = true ∨ reads.contains j = true ∨ M.contains j = true ∨ behindB md ops ops.size j i = true) :
  ∀ (r : List Nat) (listed : Array Bool) (a : Act) (w : World), (∀ i ∈ r, i ∈ reads) → closedL md ops listed → stageHead md ops (fun _ => true) r listed = true → S w →
   wpReads P ops S (fun a' => wpAnyT P md ops Q S (bsOf ops reads M) n (setAll listed r) a' w) (pickOps ops r) a →
   wpAnyT P md ops Q S (bsOf ops reads M) (r.length + n) listed a w
 | [], listed, a, w, _, _, _, _, h => by
  rw [show ([] : List Nat).length + n = n by simp]
  exact h
 | i :: r, listed, a, w, hr, hcl, hB, hS, h => by
  simp only [stageHead, Bool.and_eq_true] at hB
  obtain ⟨⟨hrdy, hfree⟩, hB'⟩ := hB
  have hrdy' : i ∈ Region.ready md ops listed := by simpa using hrdy
  have hlt := ready_lt hrdy'
  have hi : ops[i]? = some ops[i] := Array.getElem?_eq_getElem hlt
  have hp : pickOps ops (i :: r) = ops[i] :: pickOps ops r := pick_one hi r
  rw [hp] at h
  obtain ⟨v, hy, hK⟩ := h
  rw [show (i :: r).length + n = (r.length + n) + 1 by simp; omega]
  refine wpAnyT_first (S' := fun w => anyB ops[i] = true ∨ S w) hi (Region.noSelect_spec hsel) (fun c a w h => hQ c _ _ w h) (fun j listed w w' hc hj hiun hb hS => ?_) (fun w _ _ h => h) _ listed a w hcl (Region.free_spec hi hfree) hrdy' hy (.inr hS) ?_
  ·
   rcases hS with hS | hS
   ·
    exact .inl hS
   ·
    cases hany : anyB ops[i] with
    | true => exact .inl rfl
    | false =>
     right
     rcases hbe i (hr i (by simp)) (by unfold anyAt; rw [hi]; exact hany) j (ready_lt hj) with h1 | h1 | h1 | h1
     ·
      exact hb (by simp [bsOf, h1]) hS
     ·
      exact hb (by unfold bsOf; rw [h1]; simp) hS
     ·
      exact hb (by unfold bsOf; rw [h1]; simp) hS
     ·
      have := behind_ready hc h1 hj
      rw [hiun] at this
      cases this
  ·
   exact wpAnyT_reads hsel hQ hbe r _ _ w (fun x hx => hr x (by simp [hx])) (closedL_set hcl hrdy') hB' hS hK
theorem wp_region_rest {id : Nat} {l : List Oper} {a : Act} {w : World} (S : World → Prop) (reads M : List Nat) (n : Nat) (hm : P.follows .mixedOrders = true)
  (hB : restsOK .any l.toArray reads M = true) (hlen : reads.length + n = l.length) (hS : S w.drew)
  (h : ∀ Q' : Exit → Act → World → Prop, (∀ a w, Q .normal a w → Q' .normal a w) → wpReads P l.toArray S (fun a' => wpAnyT P .any l.toArray Q' S (bsOf l.toArray reads M) n (setAll (Array.replicate l.length false) reads) a' w.drew) (pickOps l.toArray reads) a) : (Code.region id l.toArray true).wp P Q a w := by
 refine wp_region_noPanic ?_
 refine wp_region_any hm ?_
 simp only [restsOK, Bool.and_eq_true, List.all_eq_true, List.mem_range, Bool.or_eq_true] at hB
 obtain ⟨⟨hsel, hbe⟩, hl⟩ := hB
 refine wpAny_of_T (S := S) (B := bsOf l.toArray reads M) _ _ _ _ ?_
 have key := wpAnyT_reads (P := P) (md := .any) (Q := NoPanic Q) (S := S) (reads := reads) (M := M) (n := n) hsel (fun c a a' w h => h) (fun i hi hany j hj => by
  rcases hbe i hi with h0 | h0
  ·
   rw [hany] at h0; cases h0
  rcases h0 j hj with ((h1 | h1) | h1) | h1
  ·
   exact .inl h1
  ·
   exact .inr (.inl h1)
  ·
   exact .inr (.inr (.inl h1))
  ·
   exact .inr (.inr (.inr h1))) reads (Array.replicate l.toArray.size false) a { w with drawn := w.drawn + 1 } (fun _ h => h)
  (fun j oj _ hl => by rw [getD_replicate_false] at hl; cases hl) hl hS (by simpa using h (NoPanic Q) (fun _ _ h => NoPanic.normal h))
 rw [hlen] at key
 simpa using key
theorem wpOp_of_list {i : Nat} {K : Act → World → Prop} {a : Act} {w : World} (hi : i < ops.size) (h : wpList P ops (EndK Q K) (pickOps ops [i]) a w) : wpOp P ops Q i K a w := by
 have ho : ops[i]? = some ops[i] := Array.getElem?_eq_getElem hi
 rw [pick_one ho []] at h
 have hw : wpOp P ops (EndK Q K) i (wpList P ops (EndK Q K) (pickOps ops [])) a w := by unfold wpOp; simp only [ho]; exact h
 exact wpOp_endK (fun a' w' h' => h') hw
theorem wpAnyT_one {B : Nat → Bool} {n i : Nat} {listed : Array Bool} {a : Act} {w : World} (hr : Region.ready md ops listed = [i]) (h : wpList P ops (EndK Q fun a' w' => (B i = true → S w → S w') ∧ wpAnyT P md ops Q S B n (listed.setIfInBounds i true) a' w') (pickOps ops [i]) a w) : wpAnyT P md ops Q S B (n + 1) listed a w := by
 have hi : i ∈ Region.ready md ops listed := by rw [hr]; simp
 refine ⟨fun h0 => (by rw [h0] at hr; cases hr), fun j hj => ?_⟩
 rw [hr] at hj
 obtain rfl : j = i := by simpa using hj
 exact wpOp_of_list (ready_lt hi) h
theorem wpAnyT_two {B : Nat → Bool} {n i k : Nat} {listed : Array Bool} {a : Act} {w : World} (hr : Region.ready md ops listed = [i, k]) (h : wpList P ops (EndK Q fun a' w' => (B i = true → S w → S w') ∧ wpAnyT P md ops Q S B n (listed.setIfInBounds i true) a' w') (pickOps ops [i]) a w)
  (h' : wpList P ops (EndK Q fun a' w' => (B k = true → S w → S w') ∧ wpAnyT P md ops Q S B n (listed.setIfInBounds k true) a' w') (pickOps ops [k]) a w) : wpAnyT P md ops Q S B (n + 1) listed a w := by
 have hi : i ∈ Region.ready md ops listed := by rw [hr]; simp
 have hk : k ∈ Region.ready md ops listed := by rw [hr]; simp
 refine ⟨fun h0 => (by rw [h0] at hr; cases hr), fun j hj => ?_⟩
 rw [hr] at hj
 rcases List.mem_cons.1 hj with rfl | hj
 ·
  exact wpOp_of_list (ready_lt hi) h
 ·
  obtain rfl : j = k := by simpa using hj
  exact wpOp_of_list (ready_lt hk) h'
theorem wpAnyT_list {reads M : List Nat} {ks : List Nat} {listed : Array Bool} {a : Act} {w : World} (hSx : ∀ w w', Ext w w' → S w → S w') (hB : (stageTail md ops (fun l => (Region.ready md ops l).isEmpty) ks listed && ks.all fun k => !(reads.contains k || M.contains k)) = true) (h : wpList P ops Q (pickOps ops ks) a w) : wpAnyT P md ops Q S (bsOf ops reads M) ks.length listed a w := by
 simp only [Bool.and_eq_true, List.all_eq_true, Bool.not_eq_true'] at hB
 have go : ∀ (ks : List Nat) (listed : Array Bool) (a : Act) (w : World), stageTail md ops (fun l => (Region.ready md ops l).isEmpty) ks listed = true → (∀ k ∈ ks, (reads.contains k || M.contains k) = false) → wpList P ops Q (pickOps ops ks) a w → wpAnyT P md ops Q S (bsOf ops reads M) ks.length listed a w := by
  intro ks
  induction ks with
  | nil => exact fun listed a w h1 _ h => ⟨by simpa [stageTail] using h1, h⟩
  | cons k r ih =>
   intro listed a w h1 h2 h
   simp only [stageTail, Bool.and_eq_true, decide_eq_true_eq] at h1
   have hrdy : k ∈ Region.ready md ops listed := by rw [h1.1]; simp
   have hlt := ready_lt hrdy
   have ho : ops[k]? = some ops[k] := Array.getElem?_eq_getElem hlt
   rw [pick_one ho r] at h
   refine ⟨fun h0 => (by rw [h0] at h1; cases h1.1), fun j hj => ?_⟩
   rw [h1.1] at hj
   obtain rfl : j = k := by simpa using hj
   have hw : wpOp P ops Q j (wpList P ops Q (pickOps ops r)) a w := by unfold wpOp; simp only [ho]; exact h
   by_cases hm : madeB ops j = true
   ·
    obtain ⟨o, ho', hmo⟩ := madeB_some hm
    exact wpOp_mono (fun a' w' h' => ⟨fun _ hS => hSx _ _ h'.1 hS, ih _ a' w' h1.2 (fun x hx => h2 x (by simp [hx])) h'.2⟩) (wpOp_makes ho' hmo hw)
   ·
    have hf : bsOf ops reads M j = false := by
     have h3 := h2 j (by simp)
     rw [Bool.or_eq_false_iff] at h3
     unfold bsOf
     rw [h3.1, h3.2]
     simpa using hm
    exact wpOp_mono (fun a' w' h' => ⟨fun hb => (by rw [hf] at hb; cases hb), ih _ a' w' h1.2 (fun x hx => h2 x (by simp [hx])) h'⟩) hw
 exact go ks listed a w hB.1 (fun k hk => hB.2 k hk) h
end
end Go.Proofs.Ytbmbfifempkhgaa

/- The checker's actors. -/
namespace Go.Proofs.Ytbmbfifempkhgaa
open Go.RowKit
def ChkRetA (w : World) (o : Col) (C B : Nat) (X : ChkV) (E : Int) (k : Chk) (e : Ending) (w' : World) : Prop := SpotRet E e ∧ ∃ o' vI vO, Turn o o' ChkC w w' ∧ (E = 0 → ChkAt w' o' C B ⟨X.name, X.va, X.ve, X.vi, X.vo, vI, vO⟩ k)
theorem actorsE_cons {c : Chk} {l : List GActor} {j : Nat} (h : j < l.length) : actorsE c (l.drop j) = if actorE c.seen l[j] ≠ 0 then actorE c.seen l[j] else actorsE (actorC c l[j]) (l.drop (j + 1)) := by
 rw [List.drop_eq_getElem_cons h, actorsE]
theorem actorsC_snoc {c : Chk} {l : List GActor} {j : Nat} (h : j < l.length) : actorsC c (l.take (j + 1)) = actorC (actorsC c (l.take j)) l[j] := by
 rw [List.take_succ_eq_append_getElem h, actorsC, List.foldl_append]; rfl
theorem actorsC_seen (l : List GActor) : ∀ c : Chk, (actorsC c l).seen = c.seen ++ l.map GActor.name := by
 induction l with
 | nil => intro c; simp [actorsC]
 | cons a r ih => intro c; rw [show actorsC c (a :: r) = actorsC (actorC c a) r from rfl, ih]; simp [actorC]
theorem actorsC_rows (l : List GActor) : ∀ c : Chk, (actorsC c l).ins.length = c.ins.length + l.length ∧ (actorsC c l).outs.length = c.outs.length + l.length := by
 induction l with
 | nil => intro c; simp [actorsC]
 | cons a r ih => intro c; rw [show actorsC c (a :: r) = actorsC (actorC c a) r from rfl, (ih _).1, (ih _).2]; simp [actorC]; omega
theorem shape_len {t : Int} {ps : List Int} (h : goodP t ps) : (insP t ps).length ≤ 16 ∧ (outsP t ps).length ≤ 16 := by
 have h1 : oneP ps 16 → (hd ps).toNat ≤ 16 := fun h => by unfold oneP at h; omega
 have h2 : pairP ps → (hd ps).toNat ≤ 16 := fun h => by unfold pairP at h; omega
 unfold goodP at h
 rcases h with ⟨rfl, h⟩ | ⟨rfl, h⟩ | ⟨rfl, h⟩ | ⟨rfl, h⟩ | ⟨rfl, h⟩ | ⟨rfl, h⟩ | ⟨rfl, h⟩ | ⟨rfl, h⟩ | ⟨rfl, h⟩ | ⟨rfl, h⟩ | ⟨rfl, h⟩ <;> simp [insP, outsP] <;> first | (have := h1 h; omega) | (have := h2 h; omega) | skip
set_option maxRecDepth 100000 in
set_option maxHeartbeats 4000000 in
theorem gactors_any (w0 w : World) (o : Col) (C B : Nat) (X : ChkV) (k : Chk) (l : List GActor) (hv : Recs w0 3 ActorR X.va l) (K : Kept w0.heap.size o w0 w) (hn : k.seen.length + l.length ≤ 1000000) (hi0 : k.ins.length + l.length ≤ 1000000) (ho0 : k.outs.length + l.length ≤ 1000000)
  (hs : ∀ p ∈ l, p.name.size ≤ 4611686018427387904 ∧ p.params.length ≤ 17600000000000) (h : ChkAt w o C B X k) :
  Calls Try.prog 97 #[.pointer (some ⟨C, 0, none⟩)] w (ChkRetA w o C B X (actorsE k l) (actorsC k l)) := by
 obtain ⟨i1, bi, bz0, bz1, bz2⟩ := info_parts info_bools
 obtain ⟨ao, cap, hve⟩ := hv.slice
 rw [hve] at hv
 obtain ⟨E, hE⟩ : ∃ E, actorsE k l = E := ⟨_, rfl⟩
 rw [hE]
 have HE := Lib.hid (show actorsE (actorsC k (l.take 0)) (l.drop 0) = E by simpa [actorsC] using hE)
 have HV := Lib.hid hv
 have HVE := Lib.hid hve
 have HN := Lib.hid hn
 have HI := Lib.hid hi0
 have HO := Lib.hid ho0
 have HSZ := Lib.hid hs
 have hbR := below_alloc w (.cells #[.int .u8 0, .int .i64 0, .int .i64 0] 140)
 have HT0 := Lib.hid ((Turn.of_below o 7 hbR).mono (D := ChkC) (fun _ h => h.elim))
 have HK0 := Lib.hid (K.of_below 7 hbR)
 have hC0 := h.below 7 hbR
 have q1 := hC0.cells.2.1
 rw [hve] at q1
 have HC0 : Hid (ChkAt _ _ C B X (actorsC k (l.take 0))) := Lib.hid (by simpa [actorsC] using hC0)
 have HR0 := Lib.hid (spot_new w o 7)
 clear hE hv hve hn hi0 ho0 hs K h hbR hC0
 go_enter Try.func97, Try.ntmps97
 go_wp2_with fail
 clear q1
 obtain ⟨R, hR⟩ : ∃ R, w.heap.size = R := ⟨_, rfl⟩
 have HRE := Lib.hid hR
 rw [hR] at HR0 HT0 HK0 HC0 ⊢
 clear hR
 go_loopw [15] (fun i wr => ∃ (j : Nat) (q : Col) (vI vO : Value), j ≤ l.length ∧ i = .int .i64 j ∧ Kept w0.heap.size q w0 wr ∧ Turn o q ChkC w wr ∧ Blk wr q 7 R 140 #[.int .u8 0, .int .i64 0, .int .i64 0] ∧ ChkAt wr q C B ⟨X.name, X.va, X.ve, X.vi, X.vo, vI, vO⟩ (actorsC k (l.take j)) ∧ actorsE (actorsC k (l.take j)) (l.drop j) = E) (fun i _ => l.length - (intOf i).toNat)
 case atStart => exact ⟨0, _, X.vI, X.vO, Nat.zero_le _, rfl, HK0.out, HT0.out, HR0.out, HC0.out, HE.out⟩
 case round =>
  clear HK0 HT0 HR0 HC0 HE
  obtain ⟨j, q, vI, vO, hj, rfl, hK, hT, hR, hC, hE⟩ := hrel
  have HK := Lib.hid hK
  have HT := Lib.hid hT
  have HR := Lib.hid hR
  have HC := Lib.hid hC
  have HE := Lib.hid hE
  clear hK hT hR hC hE
  by_cases hlt : j < l.length
  ·
   have hlti : (j : Int) < l.length := by omega
   obtain ⟨b0, off, rfl, hcap, hb0, hrec⟩ := HV.out.at (by omega)
   obtain ⟨cs, hcs, hPR, hcl⟩ := hrec j hlt
   obtain ⟨xs, rfl, hst⟩ := hPR
   have c0 := cell_later HK.out.below (hcl 0 (by omega))
   have c1 := cell_later HK.out.below (hcl 1 (by omega))
   have c2 := cell_later HK.out.below (hcl 2 (by omega))
   simp at c0 c1 c2
   have hcapi : (l.length : Int) ≤ cap := by omega
   have hEc := HE.out
   rw [actorsE_cons hlt] at hEc
   have HEC := Lib.hid hEc
   have HCn := Lib.hid (actorsC_snoc (c := k) hlt)
   have hpz := HSZ.out l[j] (List.getElem_mem hlt)
   have hsl : (actorsC k (l.take j)).seen.length ≤ 1000000 := by rw [actorsC_seen]; have := HN.out; simp; omega
   have hil : (actorsC k (l.take j)).ins.length ≤ 1000000 := by rw [(actorsC_rows _ _).1]; have := HI.out; simp; omega
   have hol : (actorsC k (l.take j)).outs.length ≤ 1000000 := by rw [(actorsC_rows _ _).2]; have := HO.out; simp; omega
   have hst2 : Has w0 xs (ivs l[j].params) := hst
   obtain ⟨sa, sc, hxs⟩ := Ints.slice hst2
   subst hxs
   have HST := Lib.hid hst2
   clear hcl hcs hrec hst hst2 hEc HE
   generalize l[j] = p at *
   obtain ⟨kk, hkk⟩ : ∃ x, actorsC k (l.take j) = x := ⟨_, rfl⟩
   rw [hkk] at HEC HC HCn hsl hil hol
   clear hkk
   have hbX := below_alloc wr (.cells #[.string p.name, .int .u8 p.tag, .slice sa p.params.length sc] 57)
   have hX : Blk (wr.alloc (.cells #[.string p.name, .int .u8 p.tag, .slice sa p.params.length sc] 57)) (ext q wr.heap.size 8) 8 wr.heap.size 57 #[.string p.name, .int .u8 p.tag, .slice sa p.params.length sc] := ⟨heap_alloc_new wr _, ext_new (Nat.le_refl _)⟩
   have hTX := (Turn.of_below q 8 hbX).mono (D := ChkC) (fun _ h => h.elim)
   have HK2 := Lib.hid (HK.out.of_below 8 hbX)
   have HT2 := Lib.hid (HT.out.trans hTX (fun _ h => h))
   have HR2 := Lib.hid (HR.out.turn (Turn.of_below q 8 hbX) (fun h => h))
   have HC2 := Lib.hid (HC.out.below 8 hbX)
   have HX := Lib.hid hX
   clear hbX hX hTX HK HT HR HC
   go_wp2_with fail
   refine (gname_any _ (ext q wr.heap.size 8) C B _ kk p.name hpz.1 hsl HC2.out).mono ?_
   rintro e w4 ⟨rfl, o4, T40, hC4⟩
   have T4 := T40.mono (D := ChkC) (fun x e => by subst e; unfold ChkC; omega)
   have HK4 := Lib.hid (HK2.out.turn T4 (by unfold ChkC; omega))
   have HT4 := Lib.hid (HT2.out.trans T4 (fun _ h => h))
   have HR4 := Lib.hid (HR2.out.turn T4 (by unfold ChkC; omega))
   have HX4 := Lib.hid (HX.out.turn T4 (by unfold ChkC; omega))
   have HC4 := Lib.hid hC4
   clear T40 T4 hC4 HK2 HT2 HR2 HC2 HX
   obtain ⟨ne, hne⟩ : ∃ x, nameE kk.seen p.name = x := ⟨_, rfl⟩
   rw [hne] at HC4 ⊢
   have HNE := Lib.hid hne
   clear hne
   by_cases h0 : ne = 0
   ·
    subst h0
    have HC5 := Lib.hid (HC4.out rfl)
    have x1 := HX4.out.cell 1 _ rfl
    have x2 := HX4.out.cell 2 _ rfl
    have HP4 : Hid (Has w4 (.slice sa p.params.length sc) (ivs p.params)) := Lib.hid (HST.out.below HK4.out.below)
    clear HC4
    go_wp2_with fail
    by_cases hg : goodP p.tag p.params
    ·
     have HG := Lib.hid hg
     have HSL := Lib.hid (shape_len hg)
     refine (of_ok _ p.tag sa _ sc p.params hg hpz.2 HP4.out).mono ?_
     rintro e w5 ⟨vi, vo, rfl, p1, p2, hb5⟩
     obtain ⟨a1, c1', rfl⟩ := owns_slice p1
     obtain ⟨a2, c2', rfl⟩ := owns_slice p2
     have HK5 := Lib.hid (HK4.out.of_below 9 hb5)
     have HT5 := Lib.hid (HT4.out.trans ((Turn.of_below o4 9 hb5).mono (D := ChkC) (fun _ h => h.elim)) (fun _ h => h))
     have HR5 := Lib.hid (HR4.out.turn (Turn.of_below o4 9 hb5) (fun h => h))
     have HC6 := Lib.hid (HC5.out.below 9 hb5)
     clear p1 p2 hb5 HK4 HT4 HR4 HX4 HC5 HP4 x1 x2 hg
     generalize ext o4 w4.heap.size 9 = q5 at *
     obtain ⟨n1, hn1⟩ : ∃ n, (insP p.tag p.params).length = n := ⟨_, rfl⟩
     obtain ⟨n2, hn2⟩ : ∃ n, (outsP p.tag p.params).length = n := ⟨_, rfl⟩
     have HN1 := Lib.hid hn1
     have HN2 := Lib.hid hn2
     rw [hn1, hn2] at HSL ⊢
     have hn16 := HSL.out
     clear hn1 hn2 HSL
     go_wp2_with fail
     obtain ⟨gI, hSI⟩ := HC6.out.ins
     have hown := hSI.own.1
     obtain ⟨ia, ic, hIv⟩ := hSI.own.slice
     have y6 := HC6.out.cells.2.2.2.2.2.2.1
     have hFZ := HC6.out.froz 6
     rw [hIv] at y6 hown
     have hr := make_bools (w5).drew n1 (by omega)
     have HSI := Lib.hid hSI
     have HIV := Lib.hid hIv
     have hlen := hil
     clear hSI hIv
     have y6a := ca (o := .cells (bvs (List.replicate n1 false)).toArray 4) (w := w5) y6
     refine wp_region_rest (fun w' => w'.cell? ⟨C, 6, none⟩ = some (.slice ia kk.ins.length ic)) [0, 1, 2, 3, 4, 5, 6] [7, 9] 6 (by kernel_rfl) (by kernel_rfl) rfl y6 ?_
     intro Q' hQ'
     simp only [pickOps, List.flatMap_cons, List.flatMap_nil, List.drop_succ_cons, List.drop_zero, List.take_succ_cons, List.take_zero, List.cons_append, List.nil_append, List.append_nil]
     repeat (first
      | (refine wpReads_skip (by rfl) ?_; (try simp only [Act.put, List.setIfInBounds_toArray, List.set_cons_zero, List.set_cons_succ]))
      | (refine wpReads_cons ?_ (by rfl) (by rfl) ?_ ?_; rotate_left; (intro wz hz; (try dsimp only at hz); go_simp; try with_reducible rfl); (try simp only [Act.put, List.setIfInBounds_toArray, List.set_cons_zero, List.set_cons_succ]))
      | (refine wpReads_any ?_ (by rfl) ?_ ?_; rotate_left; (intro wz; go_simp; try with_reducible rfl); (try simp only [Act.put, List.setIfInBounds_toArray, List.set_cons_zero, List.set_cons_succ])))
     refine wpReads_nil ?_
     refine wpAnyT_one (i := 7) (by kernel_rfl) ?_
     simp only [pickOps, List.flatMap_cons, List.flatMap_nil, List.drop_succ_cons, List.drop_zero, List.take_succ_cons, List.take_zero, List.append_nil]
     go_wp2
     refine ⟨by first | exact fun _ _ => y6a | exact fun _ => y6a, ?_⟩
     refine wpAnyT_one (i := 8) (by kernel_rfl) ?_
     simp only [pickOps, List.flatMap_cons, List.flatMap_nil, List.drop_succ_cons, List.drop_zero, List.take_succ_cons, List.take_zero, List.append_nil]
     go_wp2
     refine ⟨by first | exact fun _ h => ca h | exact fun _ => ca y6a, ?_⟩
     refine wpAnyT_one (i := 9) (by kernel_rfl) ?_
     simp only [pickOps, List.flatMap_cons, List.flatMap_nil, List.drop_succ_cons, List.drop_zero, List.take_succ_cons, List.take_zero, List.append_nil]
     go_wp2_with (at_builtin; refine stop_here ?_)
     refine go_on ?_
     have hown2 : (((w5).alloc (.cells (bvs (List.replicate n1 false)).toArray 4)).alloc (.cells #[.slice (some ⟨(w5).heap.size, 0, none⟩) n1 n1] 192)).ownsRow 0 192 1 (.slice ia kk.ins.length ic) kk.ins.length (rowsV kk.ins gI) := (hown.alloc _).alloc _
     refine wpList_app rfl _ _ 177 rfl 0 192 i1 _ 1 24 Try.underlying177 bi bz0 bz1 bz2 rfl (.slice ia kk.ins.length ic) kk.ins.length _ rfl hown2 (some ⟨(w5).heap.size + 1, 0, none⟩) 1 1 [.slice (some ⟨(w5).heap.size, 0, none⟩) n1 n1] rfl rfl (fun h => by cases h) (by simpa using news_alloc ((w5).alloc (.cells (bvs (List.replicate n1 false)).toArray 4)) [.slice (some ⟨(w5).heap.size, 0, none⟩) n1 n1] 192) (by simp [Value.oneCell']) (by unfold maxLen; omega) (grow_ok (by omega)) (Nat.zero_le _) ?_
     intro v7 w7 k1 k20 _ k4
     have k2 : (((w5).alloc (.cells (bvs (List.replicate n1 false)).toArray 4)).alloc (.cells #[.slice (some ⟨(w5).heap.size, 0, none⟩) n1 n1] 192)).grownBy w7 (Value.slice ia kk.ins.length ic).ownBlock := ⟨k20.os, k20.tape, k20.output, k20.size, k20.block⟩
     have k4' : v7.ownBlock = (Value.slice ia kk.ins.length ic).ownBlock ∨ v7.ownBlock = some (((w5).alloc (.cells (bvs (List.replicate n1 false)).toArray 4)).alloc (.cells #[.slice (some ⟨(w5).heap.size, 0, none⟩) n1 n1] 192)).heap.size := k4
     obtain ⟨s7, c7, rfl⟩ := owns_slice k1
     obtain ⟨⟨z6, zf⟩, TP, CP⟩ := HC6.out.pushI HSI.out n1 k1 (by rw [HIV.out]; exact k2) (by rw [HIV.out]; exact k4')
     rw [HIV.out] at z6
     have HK7 := Lib.hid (HK5.out.turn TP (by unfold ChkC; omega))
     have HT7 := Lib.hid (HT5.out.trans TP (fun _ h => h))
     have HR7 := Lib.hid (HR5.out.turn TP (by unfold ChkC; omega))
     have HC7 := Lib.hid CP
     clear TP CP k1 k2 k20 k4 k4' hown hown2 hr y6 y6a hFZ HK5 HT5 HR5 HC6 HSI
     refine ⟨by first | exact fun _ _ => z6 | exact fun _ => z6, ?_⟩
     refine wpAnyT_list (ks := [10, 11, 12]) (fun _ _ hx h => hx.cell h) (by kernel_rfl) ?_
     simp only [pickOps, List.flatMap_cons, List.flatMap_nil, List.drop_succ_cons, List.drop_zero, List.take_succ_cons, List.take_zero, List.cons_append, List.nil_append, List.append_nil]
     go_wp2_with fail
     clear HIV z6 zf
     generalize w7.setCell ⟨C, 6, none⟩ (.slice s7 (kk.ins.length + 1) c7) = w8 at *
     generalize ext2 q5 w5.heap.size 4 3 = q8 at *
     obtain ⟨gO, hSI⟩ := HC7.out.outs
     have hown := hSI.own.1
     obtain ⟨ia, ic, hIv⟩ := hSI.own.slice
     have y6 := HC7.out.cells.2.2.2.2.2.2.2
     have hFZ := HC7.out.froz 7
     rw [hIv] at y6 hown
     have hr := make_bools (w8).drew n2 (by omega)
     have HSI := Lib.hid hSI
     have HIV := Lib.hid hIv
     have hlen := hol
     clear hSI hIv
     have y6a := ca (o := .cells (bvs (List.replicate n2 false)).toArray 4) (w := w8) y6
     refine wp_region_rest (fun w' => w'.cell? ⟨C, 7, none⟩ = some (.slice ia kk.outs.length ic)) [0, 1, 2, 3, 4, 5, 6] [7, 9] 6 (by kernel_rfl) (by kernel_rfl) rfl y6 ?_
     intro Q' hQ'
     simp only [pickOps, List.flatMap_cons, List.flatMap_nil, List.drop_succ_cons, List.drop_zero, List.take_succ_cons, List.take_zero, List.cons_append, List.nil_append, List.append_nil]
     repeat (first
      | (refine wpReads_skip (by rfl) ?_; (try simp only [Act.put, List.setIfInBounds_toArray, List.set_cons_zero, List.set_cons_succ]))
      | (refine wpReads_cons ?_ (by rfl) (by rfl) ?_ ?_; rotate_left; (intro wz hz; (try dsimp only at hz); go_simp; try with_reducible rfl); (try simp only [Act.put, List.setIfInBounds_toArray, List.set_cons_zero, List.set_cons_succ]))
      | (refine wpReads_any ?_ (by rfl) ?_ ?_; rotate_left; (intro wz; go_simp; try with_reducible rfl); (try simp only [Act.put, List.setIfInBounds_toArray, List.set_cons_zero, List.set_cons_succ])))
     refine wpReads_nil ?_
     refine wpAnyT_one (i := 7) (by kernel_rfl) ?_
     simp only [pickOps, List.flatMap_cons, List.flatMap_nil, List.drop_succ_cons, List.drop_zero, List.take_succ_cons, List.take_zero, List.append_nil]
     go_wp2
     refine ⟨by first | exact fun _ _ => y6a | exact fun _ => y6a, ?_⟩
     refine wpAnyT_one (i := 8) (by kernel_rfl) ?_
     simp only [pickOps, List.flatMap_cons, List.flatMap_nil, List.drop_succ_cons, List.drop_zero, List.take_succ_cons, List.take_zero, List.append_nil]
     go_wp2
     refine ⟨by first | exact fun _ h => ca h | exact fun _ => ca y6a, ?_⟩
     refine wpAnyT_one (i := 9) (by kernel_rfl) ?_
     simp only [pickOps, List.flatMap_cons, List.flatMap_nil, List.drop_succ_cons, List.drop_zero, List.take_succ_cons, List.take_zero, List.append_nil]
     go_wp2_with (at_builtin; refine stop_here ?_)
     refine go_on ?_
     have hown2 : (((w8).alloc (.cells (bvs (List.replicate n2 false)).toArray 4)).alloc (.cells #[.slice (some ⟨(w8).heap.size, 0, none⟩) n2 n2] 192)).ownsRow 0 192 1 (.slice ia kk.outs.length ic) kk.outs.length (rowsV kk.outs gO) := (hown.alloc _).alloc _
     refine wpList_app rfl _ _ 177 rfl 0 192 i1 _ 1 24 Try.underlying177 bi bz0 bz1 bz2 rfl (.slice ia kk.outs.length ic) kk.outs.length _ rfl hown2 (some ⟨(w8).heap.size + 1, 0, none⟩) 1 1 [.slice (some ⟨(w8).heap.size, 0, none⟩) n2 n2] rfl rfl (fun h => by cases h) (by simpa using news_alloc ((w8).alloc (.cells (bvs (List.replicate n2 false)).toArray 4)) [.slice (some ⟨(w8).heap.size, 0, none⟩) n2 n2] 192) (by simp [Value.oneCell']) (by unfold maxLen; omega) (grow_ok (by omega)) (Nat.zero_le _) ?_
     intro v7 w7 k1 k20 _ k4
     have k2 : (((w8).alloc (.cells (bvs (List.replicate n2 false)).toArray 4)).alloc (.cells #[.slice (some ⟨(w8).heap.size, 0, none⟩) n2 n2] 192)).grownBy w7 (Value.slice ia kk.outs.length ic).ownBlock := ⟨k20.os, k20.tape, k20.output, k20.size, k20.block⟩
     have k4' : v7.ownBlock = (Value.slice ia kk.outs.length ic).ownBlock ∨ v7.ownBlock = some (((w8).alloc (.cells (bvs (List.replicate n2 false)).toArray 4)).alloc (.cells #[.slice (some ⟨(w8).heap.size, 0, none⟩) n2 n2] 192)).heap.size := k4
     obtain ⟨s9, c9, rfl⟩ := owns_slice k1
     obtain ⟨⟨z6, zf⟩, TP, CP⟩ := HC7.out.pushO HSI.out n2 k1 (by rw [HIV.out]; exact k2) (by rw [HIV.out]; exact k4')
     rw [HIV.out] at z6
     have HK9 := Lib.hid (HK7.out.turn TP (by unfold ChkC; omega))
     have HT9 := Lib.hid (HT7.out.trans TP (fun _ h => h))
     have HR9 := Lib.hid (HR7.out.turn TP (by unfold ChkC; omega))
     have HC9 := Lib.hid CP
     clear TP CP k1 k2 k20 k4 k4' hown hown2 hr y6 y6a hFZ HK7 HT7 HR7 HC7 HSI
     refine ⟨by first | exact fun _ _ => z6 | exact fun _ => z6, ?_⟩
     refine wpAnyT_list (ks := [10, 11, 12]) (fun _ _ hx h => hx.cell h) (by kernel_rfl) ?_
     simp only [pickOps, List.flatMap_cons, List.flatMap_nil, List.drop_succ_cons, List.drop_zero, List.take_succ_cons, List.take_zero, List.cons_append, List.nil_append, List.append_nil]
     have hEE : E = actorsE (actorC kk p) (l.drop (j + 1)) := by rw [← HEC.out, actorE, HNE.out]; simp [HG.out]
     have HEE := Lib.hid hEE
     have HAC : Hid (actorC kk p = ⟨kk.seen ++ [p.name], kk.ins ++ [List.replicate n1 false], kk.outs ++ [List.replicate n2 false]⟩) := Lib.hid (by rw [← HN1.out, ← HN2.out]; rfl)
     clear hEE
     have hnn := HN.out
     go_wp2
     go_roundw
     case rel => exact ⟨j + 1, _, _, _, hlt, by go_num, HK9.out, HT9.out, HR9.out, by rw [HCn.out, HAC.out]; exact HC9.out, by rw [HCn.out]; exact HEE.out.symm⟩
     case measure => simp [intOf]; omega
    ·
     have HG := Lib.hid hg
     refine (of_no _ p.tag sa _ sc p.params hg hpz.2 HP4.out).mono ?_
     rintro e w5 ⟨he, hb5⟩
     obtain ⟨x, hx⟩ : ∃ x, errP p.tag = x := ⟨_, rfl⟩
     obtain ⟨z, hz⟩ : ∃ z : Nat, z = 0 := ⟨_, rfl⟩
     have hz16 : z ≤ 16 := by omega
     have he' : e = .returned (.tuple #[.slice none z 0, .slice none z 0, .int .i64 x]) := by rw [he, hz, hx]
     subst he'
     clear he hz
     have HK5 := Lib.hid (HK4.out.of_below 9 hb5)
     have HT5 := Lib.hid (HT4.out.trans ((Turn.of_below o4 9 hb5).mono (D := ChkC) (fun _ h => h.elim)) (fun _ h => h))
     have HR5 := Lib.hid (HR4.out.turn (Turn.of_below o4 9 hb5) (fun h => h))
     have HC6 := Lib.hid (HC5.out.below 9 hb5)
     clear hb5 HK4 HT4 HR4 HX4 HC5 HP4 x1 x2 hg
     generalize ext o4 w4.heap.size 9 = q5 at *
     have hx0 : ¬ x = 0 := by rw [← hx]; unfold errP; split <;> decide
     have hEE : E = x := by rw [← HEC.out, actorE, HNE.out]; simp [HG.out, hx, hx0]
     subst hEE
     clear hx
     go_wp2_with fail
     obtain ⟨gI, hSI⟩ := HC6.out.ins
     have hown := hSI.own.1
     obtain ⟨ia, ic, hIv⟩ := hSI.own.slice
     have y6 := HC6.out.cells.2.2.2.2.2.2.1
     have hFZ := HC6.out.froz 6
     rw [hIv] at y6 hown
     have hr := make_bools (w5).drew z (by omega)
     have HSI := Lib.hid hSI
     have HIV := Lib.hid hIv
     have hlen := hil
     clear hSI hIv
     have y6a := ca (o := .cells (bvs (List.replicate z false)).toArray 4) (w := w5) y6
     refine wp_region_rest (fun w' => w'.cell? ⟨C, 6, none⟩ = some (.slice ia kk.ins.length ic)) [0, 1, 2, 3, 4, 5, 6] [7, 9] 6 (by kernel_rfl) (by kernel_rfl) rfl y6 ?_
     intro Q' hQ'
     simp only [pickOps, List.flatMap_cons, List.flatMap_nil, List.drop_succ_cons, List.drop_zero, List.take_succ_cons, List.take_zero, List.cons_append, List.nil_append, List.append_nil]
     repeat (first
      | (refine wpReads_skip (by rfl) ?_; (try simp only [Act.put, List.setIfInBounds_toArray, List.set_cons_zero, List.set_cons_succ]))
      | (refine wpReads_cons ?_ (by rfl) (by rfl) ?_ ?_; rotate_left; (intro wz hz; (try dsimp only at hz); go_simp; try with_reducible rfl); (try simp only [Act.put, List.setIfInBounds_toArray, List.set_cons_zero, List.set_cons_succ]))
      | (refine wpReads_any ?_ (by rfl) ?_ ?_; rotate_left; (intro wz; go_simp; try with_reducible rfl); (try simp only [Act.put, List.setIfInBounds_toArray, List.set_cons_zero, List.set_cons_succ])))
     refine wpReads_nil ?_
     refine wpAnyT_one (i := 7) (by kernel_rfl) ?_
     simp only [pickOps, List.flatMap_cons, List.flatMap_nil, List.drop_succ_cons, List.drop_zero, List.take_succ_cons, List.take_zero, List.append_nil]
     go_wp2
     refine ⟨by first | exact fun _ _ => y6a | exact fun _ => y6a, ?_⟩
     refine wpAnyT_one (i := 8) (by kernel_rfl) ?_
     simp only [pickOps, List.flatMap_cons, List.flatMap_nil, List.drop_succ_cons, List.drop_zero, List.take_succ_cons, List.take_zero, List.append_nil]
     go_wp2
     refine ⟨by first | exact fun _ h => ca h | exact fun _ => ca y6a, ?_⟩
     refine wpAnyT_one (i := 9) (by kernel_rfl) ?_
     simp only [pickOps, List.flatMap_cons, List.flatMap_nil, List.drop_succ_cons, List.drop_zero, List.take_succ_cons, List.take_zero, List.append_nil]
     go_wp2_with (at_builtin; refine stop_here ?_)
     refine go_on ?_
     have hown2 : (((w5).alloc (.cells (bvs (List.replicate z false)).toArray 4)).alloc (.cells #[.slice (some ⟨(w5).heap.size, 0, none⟩) z z] 192)).ownsRow 0 192 1 (.slice ia kk.ins.length ic) kk.ins.length (rowsV kk.ins gI) := (hown.alloc _).alloc _
     refine wpList_app rfl _ _ 177 rfl 0 192 i1 _ 1 24 Try.underlying177 bi bz0 bz1 bz2 rfl (.slice ia kk.ins.length ic) kk.ins.length _ rfl hown2 (some ⟨(w5).heap.size + 1, 0, none⟩) 1 1 [.slice (some ⟨(w5).heap.size, 0, none⟩) z z] rfl rfl (fun h => by cases h) (by simpa using news_alloc ((w5).alloc (.cells (bvs (List.replicate z false)).toArray 4)) [.slice (some ⟨(w5).heap.size, 0, none⟩) z z] 192) (by simp [Value.oneCell']) (by unfold maxLen; omega) (grow_ok (by omega)) (Nat.zero_le _) ?_
     intro v7 w7 k1 k20 _ k4
     have k2 : (((w5).alloc (.cells (bvs (List.replicate z false)).toArray 4)).alloc (.cells #[.slice (some ⟨(w5).heap.size, 0, none⟩) z z] 192)).grownBy w7 (Value.slice ia kk.ins.length ic).ownBlock := ⟨k20.os, k20.tape, k20.output, k20.size, k20.block⟩
     have k4' : v7.ownBlock = (Value.slice ia kk.ins.length ic).ownBlock ∨ v7.ownBlock = some (((w5).alloc (.cells (bvs (List.replicate z false)).toArray 4)).alloc (.cells #[.slice (some ⟨(w5).heap.size, 0, none⟩) z z] 192)).heap.size := k4
     obtain ⟨s7, c7, rfl⟩ := owns_slice k1
     obtain ⟨⟨z6, zf⟩, TP, CP⟩ := HC6.out.pushI HSI.out z k1 (by rw [HIV.out]; exact k2) (by rw [HIV.out]; exact k4')
     rw [HIV.out] at z6
     have HK7 := Lib.hid (HK5.out.turn TP (by unfold ChkC; omega))
     have HT7 := Lib.hid (HT5.out.trans TP (fun _ h => h))
     have HR7 := Lib.hid (HR5.out.turn TP (by unfold ChkC; omega))
     have HC7 := Lib.hid CP
     clear TP CP k1 k2 k20 k4 k4' hown hown2 hr y6 y6a hFZ HK5 HT5 HR5 HC6 HSI
     refine ⟨by first | exact fun _ _ => z6 | exact fun _ => z6, ?_⟩
     refine wpAnyT_list (ks := [10, 11, 12]) (fun _ _ hx h => hx.cell h) (by kernel_rfl) ?_
     simp only [pickOps, List.flatMap_cons, List.flatMap_nil, List.drop_succ_cons, List.drop_zero, List.take_succ_cons, List.take_zero, List.cons_append, List.nil_append, List.append_nil]
     go_wp2_with fail
     clear HIV z6 zf
     generalize w7.setCell ⟨C, 6, none⟩ (.slice s7 (kk.ins.length + 1) c7) = w8 at *
     generalize ext2 q5 w5.heap.size 4 3 = q8 at *
     obtain ⟨gO, hSI⟩ := HC7.out.outs
     have hown := hSI.own.1
     obtain ⟨ia, ic, hIv⟩ := hSI.own.slice
     have y6 := HC7.out.cells.2.2.2.2.2.2.2
     have hFZ := HC7.out.froz 7
     rw [hIv] at y6 hown
     have hr := make_bools (w8).drew z (by omega)
     have HSI := Lib.hid hSI
     have HIV := Lib.hid hIv
     have hlen := hol
     clear hSI hIv
     have y6a := ca (o := .cells (bvs (List.replicate z false)).toArray 4) (w := w8) y6
     refine wp_region_rest (fun w' => w'.cell? ⟨C, 7, none⟩ = some (.slice ia kk.outs.length ic)) [0, 1, 2, 3, 4, 5, 6] [7, 9] 6 (by kernel_rfl) (by kernel_rfl) rfl y6 ?_
     intro Q' hQ'
     simp only [pickOps, List.flatMap_cons, List.flatMap_nil, List.drop_succ_cons, List.drop_zero, List.take_succ_cons, List.take_zero, List.cons_append, List.nil_append, List.append_nil]
     repeat (first
      | (refine wpReads_skip (by rfl) ?_; (try simp only [Act.put, List.setIfInBounds_toArray, List.set_cons_zero, List.set_cons_succ]))
      | (refine wpReads_cons ?_ (by rfl) (by rfl) ?_ ?_; rotate_left; (intro wz hz; (try dsimp only at hz); go_simp; try with_reducible rfl); (try simp only [Act.put, List.setIfInBounds_toArray, List.set_cons_zero, List.set_cons_succ]))
      | (refine wpReads_any ?_ (by rfl) ?_ ?_; rotate_left; (intro wz; go_simp; try with_reducible rfl); (try simp only [Act.put, List.setIfInBounds_toArray, List.set_cons_zero, List.set_cons_succ])))
     refine wpReads_nil ?_
     refine wpAnyT_one (i := 7) (by kernel_rfl) ?_
     simp only [pickOps, List.flatMap_cons, List.flatMap_nil, List.drop_succ_cons, List.drop_zero, List.take_succ_cons, List.take_zero, List.append_nil]
     go_wp2
     refine ⟨by first | exact fun _ _ => y6a | exact fun _ => y6a, ?_⟩
     refine wpAnyT_one (i := 8) (by kernel_rfl) ?_
     simp only [pickOps, List.flatMap_cons, List.flatMap_nil, List.drop_succ_cons, List.drop_zero, List.take_succ_cons, List.take_zero, List.append_nil]
     go_wp2
     refine ⟨by first | exact fun _ h => ca h | exact fun _ => ca y6a, ?_⟩
     refine wpAnyT_one (i := 9) (by kernel_rfl) ?_
     simp only [pickOps, List.flatMap_cons, List.flatMap_nil, List.drop_succ_cons, List.drop_zero, List.take_succ_cons, List.take_zero, List.append_nil]
     go_wp2_with (at_builtin; refine stop_here ?_)
     refine go_on ?_
     have hown2 : (((w8).alloc (.cells (bvs (List.replicate z false)).toArray 4)).alloc (.cells #[.slice (some ⟨(w8).heap.size, 0, none⟩) z z] 192)).ownsRow 0 192 1 (.slice ia kk.outs.length ic) kk.outs.length (rowsV kk.outs gO) := (hown.alloc _).alloc _
     refine wpList_app rfl _ _ 177 rfl 0 192 i1 _ 1 24 Try.underlying177 bi bz0 bz1 bz2 rfl (.slice ia kk.outs.length ic) kk.outs.length _ rfl hown2 (some ⟨(w8).heap.size + 1, 0, none⟩) 1 1 [.slice (some ⟨(w8).heap.size, 0, none⟩) z z] rfl rfl (fun h => by cases h) (by simpa using news_alloc ((w8).alloc (.cells (bvs (List.replicate z false)).toArray 4)) [.slice (some ⟨(w8).heap.size, 0, none⟩) z z] 192) (by simp [Value.oneCell']) (by unfold maxLen; omega) (grow_ok (by omega)) (Nat.zero_le _) ?_
     intro v7 w7 k1 k20 _ k4
     have k2 : (((w8).alloc (.cells (bvs (List.replicate z false)).toArray 4)).alloc (.cells #[.slice (some ⟨(w8).heap.size, 0, none⟩) z z] 192)).grownBy w7 (Value.slice ia kk.outs.length ic).ownBlock := ⟨k20.os, k20.tape, k20.output, k20.size, k20.block⟩
     have k4' : v7.ownBlock = (Value.slice ia kk.outs.length ic).ownBlock ∨ v7.ownBlock = some (((w8).alloc (.cells (bvs (List.replicate z false)).toArray 4)).alloc (.cells #[.slice (some ⟨(w8).heap.size, 0, none⟩) z z] 192)).heap.size := k4
     obtain ⟨s9, c9, rfl⟩ := owns_slice k1
     obtain ⟨⟨z6, zf⟩, TP, CP⟩ := HC7.out.pushO HSI.out z k1 (by rw [HIV.out]; exact k2) (by rw [HIV.out]; exact k4')
     rw [HIV.out] at z6
     have HK9 := Lib.hid (HK7.out.turn TP (by unfold ChkC; omega))
     have HT9 := Lib.hid (HT7.out.trans TP (fun _ h => h))
     have HR9 := Lib.hid (HR7.out.turn TP (by unfold ChkC; omega))
     have HC9 := Lib.hid CP
     clear TP CP k1 k2 k20 k4 k4' hown hown2 hr y6 y6a hFZ HK7 HT7 HR7 HC7 HSI
     refine ⟨by first | exact fun _ _ => z6 | exact fun _ => z6, ?_⟩
     refine wpAnyT_list (ks := [10, 11, 12]) (fun _ _ hx h => hx.cell h) (by kernel_rfl) ?_
     simp only [pickOps, List.flatMap_cons, List.flatMap_nil, List.drop_succ_cons, List.drop_zero, List.take_succ_cons, List.take_zero, List.cons_append, List.nil_append, List.append_nil]
     have z0 := HR9.out.cell 0 _ rfl
     have z1 := HR9.out.cell 1 _ rfl
     have z2 := HR9.out.cell 2 _ rfl
     have f0 := HR9.out.frozen 0
     have f1 := HR9.out.frozen 1
     have f2 := HR9.out.frozen 2
     go_wp2
     refine bodyPost_ret_by (results_tmp_row rfl _ _ _ _ _ _ _ rfl (spot_set HR9.out) Try.underlying140 rfl (by kernel_rfl)) rfl ?_
     exact ⟨⟨_, _, _, rfl⟩, _, vI, vO, HT9.out.late 7 (spot_mods (by have := HRE.out; omega) _ _ _), fun h => absurd h hx0⟩
   ·
    have e : E = ne := by rw [← HEC.out, actorE, HNE.out, if_pos h0, if_pos h0]
    subst e
    have z0 := HR4.out.cell 0 _ rfl
    have z1 := HR4.out.cell 1 _ rfl
    have z2 := HR4.out.cell 2 _ rfl
    have f0 := HR4.out.frozen 0
    have f1 := HR4.out.frozen 1
    have f2 := HR4.out.frozen 2
    go_wp2
    refine bodyPost_ret_by (results_tmp_row rfl _ _ _ _ _ _ _ rfl (spot_set HR4.out) Try.underlying140 rfl (by kernel_rfl)) rfl ?_
    exact ⟨⟨_, _, _, rfl⟩, _, vI, vO, HT4.out.late 7 (spot_mods (by have := HRE.out; omega) _ _ _), fun h => absurd h h0⟩
  ·
   obtain rfl : j = l.length := by omega
   have hfin := HE.out
   rw [List.drop_length, List.take_length] at hfin
   obtain rfl : E = 0 := hfin.symm
   have hC9 := HC.out
   rw [List.take_length] at hC9
   have HC9 := Lib.hid hC9
   clear hfin hC9
   have z0 := HR.out.cell 0 _ rfl
   have z1 := HR.out.cell 1 _ rfl
   have z2 := HR.out.cell 2 _ rfl
   have f0 := HR.out.frozen 0
   have f1 := HR.out.frozen 1
   have f2 := HR.out.frozen 2
   go_wp2
   refine bodyPost_ret_by (results_tmp_row rfl _ _ _ _ _ _ _ rfl (spot_set HR.out) Try.underlying140 rfl (by kernel_rfl)) rfl ?_
   exact ⟨⟨_, _, _, rfl⟩, _, vI, vO, HT.out.late 7 (spot_mods (by have := HRE.out; omega) _ _ _), fun _ => HC9.out.spot HR.out _ _ _⟩
end Go.Proofs.Ytbmbfifempkhgaa

/- The rows of a checker's sides: how many, how long. No function in sight. -/
namespace Go.Proofs.Ytbmbfifempkhgaa
def RowsLe (side : List (List Bool)) (m : Nat) : Prop := ∀ r : Nat, (side[r]?.getD []).length ≤ m
theorem takeS_len (side : List (List Bool)) (a p : Int) : (takeS side a p).length = side.length := by simp [takeS]
theorem takeS_rows {side : List (List Bool)} {m : Nat} (h : RowsLe side m) (a p : Int) : RowsLe (takeS side a p) m := fun r => by
 unfold takeS
 by_cases e : a.toNat = r
 ·
  by_cases hr : r < side.length
  ·
   rw [e, List.getElem?_set_self hr, Option.getD_some, List.length_set]
   unfold side1
   exact h _
  ·
   rw [List.getElem?_eq_none (by simpa using Nat.le_of_not_lt hr)]
   simp
 ·
  rw [List.getElem?_set_ne e]; exact h r
theorem edgesC_len (l : List GEdge) : ∀ c : Chk, (edgesC c l).ins.length = c.ins.length ∧ (edgesC c l).outs.length = c.outs.length ∧ (edgesC c l).seen = c.seen := by
 induction l with
 | nil => intro c; exact ⟨rfl, rfl, rfl⟩
 | cons e r ih => intro c; rw [show edgesC c (e :: r) = edgesC (edgeC c e) r from rfl, (ih _).1, (ih _).2.1, (ih _).2.2]; simp [edgeC, takeS_len]
theorem edgesC_rows (l : List GEdge) {m : Nat} : ∀ c : Chk, RowsLe c.ins m → RowsLe c.outs m → RowsLe (edgesC c l).ins m ∧ RowsLe (edgesC c l).outs m := by
 induction l with
 | nil => intro c h1 h2; exact ⟨h1, h2⟩
 | cons e r ih => intro c h1 h2; exact ih _ (takeS_rows h1 _ _) (takeS_rows h2 _ _)
theorem portsS_len (l : List GPort) : ∀ side : List (List Bool), (portsS side l).length = side.length := by
 induction l with
 | nil => intro s; rfl
 | cons p r ih => intro s; rw [show portsS s (p :: r) = portsS (takeS s p.actor p.port) r from rfl, ih, takeS_len]
theorem portsS_rows (l : List GPort) {m : Nat} : ∀ side : List (List Bool), RowsLe side m → RowsLe (portsS side l) m := by
 induction l with
 | nil => intro s h; exact h
 | cons p r ih => intro s h; exact ih _ (takeS_rows h _ _)
theorem rowsLe_snoc {side : List (List Bool)} {m n : Nat} (h : RowsLe side m) (hn : n ≤ m) : RowsLe (side ++ [List.replicate n false]) m := fun r => by
 by_cases hr : r < side.length
 ·
  rw [List.getElem?_append_left hr]; exact h r
 ·
  by_cases e : r = side.length
  ·
   subst e; simp; exact hn
  ·
   rw [List.getElem?_eq_none (by simp; omega)]; simp
theorem actorsE_rows (l : List GActor) : ∀ c : Chk, actorsE c l = 0 → RowsLe c.ins 16 → RowsLe c.outs 16 → RowsLe (actorsC c l).ins 16 ∧ RowsLe (actorsC c l).outs 16 := by
 induction l with
 | nil => intro c _ h1 h2; exact ⟨h1, h2⟩
 | cons a r ih =>
  intro c h h1 h2
  unfold actorsE at h
  by_cases h0 : actorE c.seen a = 0
  ·
   rw [if_neg (by simpa using h0)] at h
   have hg : goodP a.tag a.params := by
    refine Decidable.byContradiction fun hn => ?_
    unfold actorE at h0
    split at h0
    ·
     rename_i hx; exact hx h0
    ·
     have h0 : errP a.tag = 0 := by first | exact h0 | (rw [if_neg hn] at h0; exact h0)
     unfold errP at h0
     split at h0 <;> cases h0
   have hl := shape_len hg
   exact ih _ h (rowsLe_snoc h1 hl.1) (rowsLe_snoc h2 hl.2)
  ·
   rw [if_pos h0] at h
   exact absurd h h0
theorem rowsLe_nil (m : Nat) : RowsLe [] m := fun r => by simp
end Go.Proofs.Ytbmbfifempkhgaa

/- The firings' rows, plainly; two matrices of operations in memory. No function in sight. -/
namespace Go.Proofs.Ytbmbfifempkhgaa
open Go.RowKit
def rateL (l : List Int) : List GOp := l.map fun r => ⟨0, 0, r⟩
def zeroL (n : Nat) : List GOp := List.replicate n ⟨0, 0, 0⟩
def fillL (l : List Int) (k : Nat) : List GOp := rateL (l.take k) ++ zeroL (l.length - k)
theorem fillL_zero (l : List Int) : fillL l 0 = zeroL l.length := by simp [fillL, rateL]
theorem fillL_all (l : List Int) : fillL l l.length = rateL l := by simp [fillL, zeroL]
theorem fillL_len (l : List Int) (k : Nat) (h : k ≤ l.length) : (fillL l k).length = l.length := by simp [fillL, rateL, zeroL]; omega
theorem fillL_succ (l : List Int) (k : Nat) (h : k < l.length) : (opsV (fillL l k)).set (k * 3 + 2) (.int .i64 (l[k]?.getD 0)) = opsV (fillL l (k + 1)) := by
 have hl : k < (fillL l k).length := by rw [fillL_len l k (by omega)]; exact h
 have hk : (rateL (l.take k)).length = k := by simp [rateL]; omega
 obtain ⟨m, hm⟩ : ∃ m, l.length - k = m + 1 := ⟨l.length - k - 1, by omega⟩
 have hz : (fillL l k)[k] = ⟨0, 0, 0⟩ := by
  refine List.getElem_eq_iff hl |>.2 ?_
  unfold fillL
  rw [List.getElem?_append_right (by omega), hk, Nat.sub_self, hm, zeroL, List.replicate_succ]
  rfl
 rw [opsV_setB _ _ hl, hz]
 congr 1
 unfold fillL
 rw [List.set_append_right _ _ (by omega), hk, Nat.sub_self, hm, zeroL, List.replicate_succ, List.set_cons_zero, List.take_succ_eq_append_getElem h, show l.length - (k + 1) = m by omega, List.getElem?_eq_getElem h, Option.getD_some]
 simp only [rateL, List.map_append, List.map_cons, List.map_nil, List.append_assoc, List.cons_append, List.nil_append, zeroL]
def rowJ (f : Nat → List GOp) (n : Nat) : Nat → List (List GOp)
 | 0 => List.replicate n []
 | j + 1 => (rowJ f n j).set j (f j)
theorem rowJ_len (f : Nat → List GOp) (n : Nat) : ∀ j, (rowJ f n j).length = n
 | 0 => by simp [rowJ]
 | j + 1 => by rw [rowJ, List.length_set, rowJ_len f n j]
theorem rowJ_row (f : Nat → List GOp) (n i : Nat) (hi : i < n) : ∀ j, rowM (rowJ f n j) i = if i < j then f i else []
 | 0 => by simp [rowJ, rowM, hi]
 | j + 1 => by
  have ih := rowJ_row f n i hi j
  unfold rowM at ih ⊢
  rw [rowJ]
  by_cases e : j = i
  ·
   subst e
   rw [List.getElem?_set_self (by rw [rowJ_len]; exact hi)]
   simp
  ·
   rw [List.getElem?_set_ne e, ih]
   by_cases h1 : i < j
   ·
    rw [if_pos h1, if_pos (by omega)]
   ·
    rw [if_neg h1, if_neg (by omega)]
def insF (g : GGraph) (j : Nat) : List GOp := match g.actors[j]? with | some a => rateL (insP a.tag a.params) | none => []
def outsF (g : GGraph) (j : Nat) : List GOp := match g.actors[j]? with | some a => rateL (outsP a.tag a.params) | none => []
def putAll (f : Nat → Option (Int × Int)) (kd : Int) (m : List (List GOp)) : Nat → List (List GOp)
 | 0 => m
 | j + 1 => match f j with | some (a, p) => putM (putAll f kd m j) a.toNat p.toNat kd j | none => putAll f kd m j
theorem putAll_len (f : Nat → Option (Int × Int)) (kd : Int) (m : List (List GOp)) : ∀ j, (putAll f kd m j).length = m.length
 | 0 => rfl
 | j + 1 => by
  rw [putAll]
  split
  ·
   rw [putM_len, putAll_len f kd m j]
  ·
   exact putAll_len f kd m j
theorem putAll_row (f : Nat → Option (Int × Int)) (kd : Int) (m : List (List GOp)) (i : Nat) : ∀ j, (rowM (putAll f kd m j) i).length = (rowM m i).length
 | 0 => rfl
 | j + 1 => by
  rw [putAll]
  split
  ·
   rw [putM_row, putAll_row f kd m i j]
  ·
   exact putAll_row f kd m i j
theorem putAll_succ {f : Nat → Option (Int × Int)} {kd : Int} {m : List (List GOp)} {j : Nat} {a p : Int} (h : f j = some (a, p)) : putAll f kd m (j + 1) = putM (putAll f kd m j) a.toNat p.toNat kd j := by rw [putAll, h]
def eDst (g : GGraph) (j : Nat) : Option (Int × Int) := match g.edges[j]? with | some e => some (e.dst, e.dport) | none => none
def eSrc (g : GGraph) (j : Nat) : Option (Int × Int) := match g.edges[j]? with | some e => some (e.src, e.sport) | none => none
def pAt (l : List GPort) (j : Nat) : Option (Int × Int) := match l[j]? with | some p => some (p.actor, p.port) | none => none
def matI0 (g : GGraph) : List (List GOp) := rowJ (insF g) g.actors.length g.actors.length
def matO0 (g : GGraph) : List (List GOp) := rowJ (outsF g) g.actors.length g.actors.length
def matI1 (g : GGraph) : List (List GOp) := putAll (eDst g) 3 (matI0 g) g.edges.length
def matO1 (g : GGraph) : List (List GOp) := putAll (eSrc g) 6 (matO0 g) g.edges.length
def matI2 (g : GGraph) : List (List GOp) := putAll (pAt g.ins) 4 (matI1 g) g.ins.length
def matO2 (g : GGraph) : List (List GOp) := putAll (pAt g.outs) 7 (matO1 g) g.outs.length
def finR (I O : List (List GOp)) (j : Nat) : List GOp := rowM I j ++ [⟨5, j, 0⟩] ++ rowM O j
def finM (I O : List (List GOp)) : Nat → List (List GOp)
 | 0 => I
 | j + 1 => (finM I O j).set j (finR I O j)
theorem finM_len (I O : List (List GOp)) : ∀ j, (finM I O j).length = I.length
 | 0 => rfl
 | j + 1 => by rw [finM, List.length_set, finM_len I O j]
theorem finM_row (I O : List (List GOp)) (i : Nat) (hi : i < I.length) : ∀ j, rowM (finM I O j) i = if i < j then finR I O i else rowM I i
 | 0 => by simp [finM]
 | j + 1 => by
  have ih := finM_row I O i hi j
  unfold rowM at ih ⊢
  rw [finM]
  by_cases e : j = i
  ·
   subst e
   rw [List.getElem?_set_self (by rw [finM_len]; exact hi)]
   simp
  ·
   rw [List.getElem?_set_ne e, ih]
   by_cases h1 : i < j
   ·
    rw [if_pos h1, if_pos (by omega)]
   ·
    rw [if_neg h1, if_neg (by omega)]
def firP (g : GGraph) : List (List GOp) := finM (matI2 g) (matO2 g) g.actors.length
theorem matI0_len (g : GGraph) : (matI0 g).length = g.actors.length := rowJ_len _ _ _
theorem matO0_len (g : GGraph) : (matO0 g).length = g.actors.length := rowJ_len _ _ _
theorem matI1_len (g : GGraph) : (matI1 g).length = g.actors.length := by rw [matI1, putAll_len, matI0_len]
theorem matO1_len (g : GGraph) : (matO1 g).length = g.actors.length := by rw [matO1, putAll_len, matO0_len]
theorem matI2_len (g : GGraph) : (matI2 g).length = g.actors.length := by rw [matI2, putAll_len, matI1_len]
theorem matO2_len (g : GGraph) : (matO2 g).length = g.actors.length := by rw [matO2, putAll_len, matO1_len]
theorem firP_len (g : GGraph) : (firP g).length = g.actors.length := by rw [firP, finM_len, matI2_len]
theorem matI0_row (g : GGraph) {i : Nat} (h : i < g.actors.length) : (rowM (matI0 g) i).length = (insF g i).length := by rw [matI0, rowJ_row _ _ _ h, if_pos h]
theorem matO0_row (g : GGraph) {i : Nat} (h : i < g.actors.length) : (rowM (matO0 g) i).length = (outsF g i).length := by rw [matO0, rowJ_row _ _ _ h, if_pos h]
theorem matI1_row (g : GGraph) {i : Nat} (h : i < g.actors.length) : (rowM (matI1 g) i).length = (insF g i).length := by rw [matI1, putAll_row, matI0_row g h]
theorem matO1_row (g : GGraph) {i : Nat} (h : i < g.actors.length) : (rowM (matO1 g) i).length = (outsF g i).length := by rw [matO1, putAll_row, matO0_row g h]
theorem matI2_row (g : GGraph) {i : Nat} (h : i < g.actors.length) : (rowM (matI2 g) i).length = (insF g i).length := by rw [matI2, putAll_row, matI1_row g h]
theorem matO2_row (g : GGraph) {i : Nat} (h : i < g.actors.length) : (rowM (matO2 g) i).length = (outsF g i).length := by rw [matO2, putAll_row, matO1_row g h]
def InAt (g : GGraph) (a p : Int) : Prop := 0 ≤ a ∧ a < g.actors.length ∧ 0 ≤ p ∧ p < (insF g a.toNat).length
def OutAt (g : GGraph) (a p : Int) : Prop := 0 ≤ a ∧ a < g.actors.length ∧ 0 ≤ p ∧ p < (outsF g a.toNat).length
structure FirOk (g : GGraph) : Prop where
 actors : g.actors.length ≤ 32
 edges : g.edges.length ≤ 96
 ins : g.ins.length ≤ 16
 outs : g.outs.length ≤ 16
 good : ∀ a ∈ g.actors, goodP a.tag a.params ∧ a.params.length ≤ 17600000000000
 src : ∀ e ∈ g.edges, OutAt g e.src e.sport
 dst : ∀ e ∈ g.edges, InAt g e.dst e.dport
 pin : ∀ p ∈ g.ins, InAt g p.actor p.port
 pout : ∀ p ∈ g.outs, OutAt g p.actor p.port
theorem insF_len {g : GGraph} (h : FirOk g) (j : Nat) : (insF g j).length ≤ 16 := by
 unfold insF
 split
 ·
  rename_i a ha
  simp only [rateL, List.length_map]
  exact (shape_len (h.good a (List.mem_of_getElem? ha)).1).1
 ·
  simp
theorem outsF_len {g : GGraph} (h : FirOk g) (j : Nat) : (outsF g j).length ≤ 16 := by
 unfold outsF
 split
 ·
  rename_i a ha
  simp only [rateL, List.length_map]
  exact (shape_len (h.good a (List.mem_of_getElem? ha)).1).2
 ·
  simp
section
variable {w w1 w' : World} {o o1 o' : Col} {C : Nat → Prop} {c d : Nat} {v : Value} {m : List (List GOp)} {vs : List Value}
theorem make_ops (w : World) (n : Nat) (h : n ≤ 1000) : (Instr.makeSlice 37 (.int .i64 (n : Int)) (.int .i64 (n : Int))).run Try.prog w = .ok (.slice (some ⟨w.heap.size, 0, none⟩) n n) (w.alloc (.cells (opsV (zeroL n)).toArray 61)) := by
 obtain ⟨i0, hi, hz0, hz1, hz2⟩ := info_parts info_Op
 have hr := run_make (P := Try.prog) (w := w) 37 61 i0 _ Try.underlying37 hi hz0 .i64 .i64 (n : Int) (n : Int) (by omega) (Int.le_refl _) (by rw [hz2]; omega) (by omega)
 rw [hz1] at hr
 simp only [Int.toNat_natCast] at hr
 rw [hr, zeroL, ← opsV_zero]
theorem make_opss (w : World) (n : Nat) (h : n ≤ 1000) : (Instr.makeSlice 99 (.int .i64 (n : Int)) (.int .i64 (n : Int))).run Try.prog w = .ok (.slice (some ⟨w.heap.size, 0, none⟩) n n) (w.alloc (.cells (Array.replicate n (.slice none 0 0)) 37)) := by
 obtain ⟨i0, hi, hz0, hz1, hz2⟩ := info_parts info_Ops
 have hr := run_make (P := Try.prog) (w := w) 99 37 i0 _ Try.underlying99 hi hz0 .i64 .i64 (n : Int) (n : Int) (by omega) (Int.le_refl _) (by rw [hz2]; omega) (by omega)
 rw [hz1] at hr
 simp only [Int.toNat_natCast, Nat.mul_one] at hr
 rw [hr, ← List.toArray_replicate, ← toList_madeCells_one (.slice none 0 0) n]
 rfl
theorem opM_new (w : World) (o : Col) (c d n : Nat) (hn : n ≤ 1000) : OpM (w.alloc (.cells (Array.replicate n (.slice none 0 0)) 37)) (ext o w.heap.size c) c d (.slice (some ⟨w.heap.size, 0, none⟩) n n) (List.replicate n []) (List.replicate n (.slice none 0 0)) := by
 refine ⟨by simp, ⟨⟨by simp, .inr ⟨w.heap.size, n, _, by simp, Nat.zero_le _, heap_alloc_new w _, by simp, by unfold maxLen; omega, by simp, by simp⟩⟩, fun k hk => ?_⟩, fun k hk => ?_, fun i j B _ hj hB => ?_⟩
 ·
  obtain rfl := Option.some.inj hk
  exact ext_new (Nat.le_refl _)
 ·
  have hk' : k < n := by simpa using hk
  simp only [List.getElem?_replicate, hk', if_true, Option.getD_some]
  exact Own.nil _ _ _ _ _
 ·
  have hj' : j < n := by simpa using hj
  simp only [List.getElem?_replicate, show i < n by omega, if_true, Option.getD_some, Value.ownBlock] at hB
  cases hB
theorem row_new (w : World) (o : Col) (d n : Nat) (hn : n ≤ 1000) : Own (w.alloc (.cells (opsV (zeroL n)).toArray 61)) (ext o w.heap.size d) d 61 3 (.slice (some ⟨w.heap.size, 0, none⟩) n n) (zeroL n).length (opsV (zeroL n)) := by
 have hl : (opsV (zeroL n)).length = n * 3 := by rw [opsV_len]; simp [zeroL]
 refine ⟨⟨by rw [hl]; simp [zeroL], .inr ⟨w.heap.size, n, _, by simp [zeroL], Nat.zero_le _, heap_alloc_new w _, by simp [zeroL], by unfold maxLen; omega, by simp [hl], ?_⟩⟩, fun k hk => ?_⟩
 ·
  rw [show (zeroL n).length = n by simp [zeroL], ← hl]; simp
 ·
  obtain rfl := Option.some.inj hk
  exact ext_new (Nat.le_refl _)
theorem OpM.fresh (h : OpM w o c d v m vs) {k : Nat} (hk : k < m.length) {B : Nat} (hB : (vs[k]?.getD undef).ownBlock = some B) : B < w.heap.size := ((h.rows k hk).1.lt B hB).2
theorem OpM.lay2 {g n cap a : Nat} {l' : List GOp} {v' : Value} (h : OpM w o c d (.slice (some ⟨g, 0, none⟩) n cap) m vs) (hcd : c ≠ d) (ha : a < m.length) (hv : Own w o d 61 3 v' l'.length (opsV l')) (hb : ∀ k, k < m.length → ∀ B, (vs[k]?.getD undef).ownBlock = some B → v'.ownBlock ≠ some B) :
  OpM (w.setCell ⟨g, a, none⟩ v') o c d (.slice (some ⟨g, 0, none⟩) n cap) (m.set a l') (vs.set a v') ∧ Turn o o (fun x => x = c) w (w.setCell ⟨g, a, none⟩ v') := by
 have hgc : o g = c := h.own.2 g rfl
 have T : Turn o o (fun x => x = c) w (w.setCell ⟨g, a, none⟩ v') := ⟨(Mods.refl (fun k => o k = c) w).setCell (p := ⟨g, a, none⟩) (fun _ => hgc) v', fun _ _ => rfl⟩
 have hvg : v'.ownBlock ≠ some g := fun e => by have := hv.2 g e; omega
 have hl := h.len
 have hn : n = m.length := by
  rcases h.own.1.2 with ⟨e, _⟩ | ⟨_, _, _, e, _⟩
  ·
   cases e
  ·
   cases e; rfl
 subst hn
 refine ⟨⟨by simp [hl], ?_, fun k hk => ?_, fun i j B hij hj hB => ?_⟩, T⟩
 ·
  rw [List.length_set]
  exact ⟨(h.own.1.stored a v').1, h.own.2⟩
 ·
  rw [List.length_set] at hk
  by_cases e : a = k
  ·
   subst e
   rw [List.getElem?_set_self ha, List.getElem?_set_self (by omega), Option.getD_some, Option.getD_some]
   exact ⟨ownsRow_setCell_other hv.1 hvg v', hv.2⟩
  ·
   rw [List.getElem?_set_ne e, List.getElem?_set_ne e]
   exact (h.rows k hk).turn T (fun e => hcd e.symm)
 ·
  rw [List.length_set] at hj
  by_cases hai : a = i
  ·
   subst hai
   rw [List.getElem?_set_self (by omega), Option.getD_some] at hB
   rw [List.getElem?_set_ne (by omega)]
   exact fun e => hb j hj B e hB
  ·
   rw [List.getElem?_set_ne hai] at hB
   by_cases haj : a = j
   ·
    subst haj
    rw [List.getElem?_set_self (by omega), Option.getD_some]
    exact hb i (by omega) B hB
   ·
    rw [List.getElem?_set_ne haj]
    exact h.apart i j B hij hj hB
end
end Go.Proofs.Ytbmbfifempkhgaa
