/- The checker's edges. -/
import Derived.Test.YtbmbfifempkhgaaGPorts
namespace Go.Proofs.Ytbmbfifempkhgaa
open Go.RowKit


theorem edgesE_cons {c : Chk} {l : List GEdge} {j : Nat} (h : j < l.length) : edgesE c (l.drop j) = if edgeE c l[j] ≠ 0 then edgeE c l[j] else edgesE (edgeC c l[j]) (l.drop (j + 1)) := by
  rw [List.drop_eq_getElem_cons h, edgesE]
theorem edgesC_snoc {c : Chk} {l : List GEdge} {j : Nat} (h : j < l.length) : edgesC c (l.take (j + 1)) = edgeC (edgesC c (l.take j)) l[j] := by
  rw [List.take_succ_eq_append_getElem h, edgesC, List.foldl_append]; rfl
theorem edge_split {c : Chk} {e : GEdge} {r : Int} : (if edgeE c e ≠ 0 then edgeE c e else r) = if takeE c.outs e.src e.sport ≠ 0 then takeE c.outs e.src e.sport else if takeE c.ins e.dst e.dport ≠ 0 then takeE c.ins e.dst e.dport else if 256 < e.start.length then 88 else r := by
  unfold edgeE
  by_cases h : takeE c.outs e.src e.sport = 0
  · by_cases h2 : takeE c.ins e.dst e.dport = 0
    · by_cases h3 : 256 < e.start.length
      · simp [h, h2, h3]
      · simp [h, h2, h3]
    · simp [h, h2]
  · simp [h]

set_option maxRecDepth 100000 in
set_option maxHeartbeats 2000000 in
theorem gedges_any (w0 w : World) (o : Col) (C B : Nat) (X : ChkV) (k : Chk) (l : List GEdge) (hv : Recs w0 5 EdgeR X.ve l) (K : Kept w0.heap.size o w0 w) (hn : l.length ≤ 1000000) (h : ChkAt w o C B X k) :
    Calls Try.prog 98 #[.pointer (some ⟨C, 0, none⟩)] w (ChkRet w o C B X (edgesE k l) (edgesC k l)) := by
  obtain ⟨ao, cap, hve⟩ := hv.slice
  rw [hve] at hv
  obtain ⟨E, hE⟩ : ∃ E, edgesE k l = E := ⟨_, rfl⟩
  rw [hE]
  have HE := Lib.hid (show edgesE (edgesC k (l.take 0)) (l.drop 0) = E by simpa [edgesC] using hE)
  have HV := Lib.hid hv
  have HVE := Lib.hid hve
  have HN := Lib.hid hn
  have hbR := below_alloc w (.cells #[.int .u8 0, .int .i64 0, .int .i64 0] 140)
  have HT0 := Lib.hid ((Turn.of_below o 7 hbR).mono (D := ChkC) (fun _ h => h.elim))
  have HK0 := Lib.hid (K.of_below 7 hbR)
  have hC0 := h.below 7 hbR
  have q2 := hC0.cells.2.2.1
  rw [hve] at q2
  have HC0 : Hid (ChkAt _ _ C B X (edgesC k (l.take 0))) := Lib.hid (by simpa [edgesC] using hC0)
  have HR0 := Lib.hid (spot_new w o 7)
  clear hE hv hve hn K h hbR hC0
  go_enter Try.func98, Try.ntmps98
  go_wp2_with fail
  clear q2
  obtain ⟨R, hR⟩ : ∃ R, w.heap.size = R := ⟨_, rfl⟩
  have HRE := Lib.hid hR
  rw [hR] at HR0 HT0 HK0 HC0 ⊢
  clear hR
  go_loopw [14] (fun i wr => ∃ (j : Nat) (q : Col), j ≤ l.length ∧ i = .int .i64 j ∧ Kept w0.heap.size q w0 wr ∧ Turn o q ChkC w wr ∧ Blk wr q 7 R 140 #[.int .u8 0, .int .i64 0, .int .i64 0] ∧ ChkAt wr q C B X (edgesC k (l.take j)) ∧ edgesE (edgesC k (l.take j)) (l.drop j) = E) (fun i _ => l.length - (intOf i).toNat)
  case atStart => exact ⟨0, _, Nat.zero_le _, rfl, HK0.out, HT0.out, HR0.out, HC0.out, HE.out⟩
  case round =>
    clear HK0 HT0 HR0 HC0 HE
    obtain ⟨j, q, hj, rfl, hK, hT, hR, hC, hE⟩ := hrel
    have HK := Lib.hid hK
    have HT := Lib.hid hT
    have HR := Lib.hid hR
    have HC := Lib.hid hC
    have HE := Lib.hid hE
    clear hK hT hR hC hE
    by_cases hlt : j < l.length
    · have hlti : (j : Int) < l.length := by omega
      obtain ⟨b0, off, rfl, hcap, hb0, hrec⟩ := (HV.out.below edge_steady HK.out.below).at (by omega)
      obtain ⟨cs, hcs, hPR, hcl⟩ := hrec j hlt
      obtain ⟨xs, rfl, hst⟩ := hPR
      have c0 := hcl 0 (by omega)
      have c1 := hcl 1 (by omega)
      have c2 := hcl 2 (by omega)
      have c3 := hcl 3 (by omega)
      have c4 := hcl 4 (by omega)
      simp at c0 c1 c2 c3 c4
      have hcapi : (l.length : Int) ≤ cap := by omega
      have hEc := HE.out
      rw [edgesE_cons hlt] at hEc
      have HEC := Lib.hid hEc
      have HCn := Lib.hid (edgesC_snoc (c := k) hlt)
      have hst2 : Has wr xs (ivs l[j].start) := hst
      obtain ⟨sa, sc, hxs⟩ := Ints.slice hst2
      subst hxs
      clear hcl hcs hrec hst hst2 hEc HE
      generalize l[j] = p at *
      rw [edge_split] at HEC
      obtain ⟨kk, hkk⟩ : ∃ x, edgesC k (l.take j) = x := ⟨_, rfl⟩
      rw [hkk] at HEC HC HCn
      clear hkk
      have hbX := below_alloc wr (.cells #[.int .i64 p.src, .int .i64 p.sport, .int .i64 p.dst, .int .i64 p.dport, .slice sa p.start.length sc] 63)
      have hX : Blk (wr.alloc (.cells #[.int .i64 p.src, .int .i64 p.sport, .int .i64 p.dst, .int .i64 p.dport, .slice sa p.start.length sc] 63)) (ext q wr.heap.size 8) 8 wr.heap.size 63 #[.int .i64 p.src, .int .i64 p.sport, .int .i64 p.dst, .int .i64 p.dport, .slice sa p.start.length sc] := ⟨heap_alloc_new wr _, ext_new (Nat.le_refl _)⟩
      have hTX := (Turn.of_below q 8 hbX).mono (D := ChkC) (fun _ h => h.elim)
      have HK2 := Lib.hid (HK.out.of_below 8 hbX)
      have HT2 := Lib.hid (HT.out.trans hTX (fun _ h => h))
      have HR2 := Lib.hid (HR.out.turn (Turn.of_below q 8 hbX) (fun h => h))
      have HC2 := Lib.hid (HC.out.below 8 hbX)
      have HX := Lib.hid hX
      have y0 := hX.cell 0 _ rfl
      have y1 := hX.cell 1 _ rfl
      have y7 := HC2.out.cells.2.2.2.2.2.2.2
      obtain ⟨gO, hSO⟩ := HC2.out.outs
      have HSO := Lib.hid hSO
      clear hbX hX hTX HK HT HR HC hSO
      go_wp2_with fail
      refine wp_region_lex (fun w' => w'.cell? ⟨C, 7, none⟩ = some X.vO ∧ w'.cell? ⟨wr.heap.size, 0, none⟩ = some (.int .i64 p.src) ∧ w'.cell? ⟨wr.heap.size, 1, none⟩ = some (.int .i64 p.sport)) [0, 1, 2, 3, 4, 5, 6, 7] [8, 9] (by kernel_rfl) (by kernel_rfl) rfl (fun _ _ hx h => ⟨hx.cell h.1, hx.cell h.2.1, hx.cell h.2.2⟩) ⟨y7, y0, y1⟩ ?_
      intro Q' hQ'
      simp only [pickOps, List.flatMap_cons, List.flatMap_nil, List.drop_succ_cons, List.drop_zero, List.take_succ_cons, List.take_zero, List.cons_append, List.nil_append, List.append_nil]
      repeat (first
        | (refine wpReads_skip (by rfl) ?_; (try simp only [Act.put, List.setIfInBounds_toArray, List.set_cons_zero, List.set_cons_succ]))
        | (refine wpReads_cons ?_ (by rfl) (by rfl) ?_ ?_; rotate_left; (intro wz hz; (try dsimp only at hz); go_simp; try with_reducible rfl); (try simp only [Act.put, List.setIfInBounds_toArray, List.set_cons_zero, List.set_cons_succ]))
        | (refine wpReads_any ?_ (by rfl) ?_ ?_; rotate_left; (intro wz; go_simp; try with_reducible rfl); (try simp only [Act.put, List.setIfInBounds_toArray, List.set_cons_zero, List.set_cons_succ])))
      refine wpReads_nil ?_
      go_wp2_with fail
      refine (gtake_any _ (ext q wr.heap.size 8) 5 6 X.vO kk.outs gO p.src p.sport (by decide) (HSO.out.turn (Turn.of_quiet _ ⟨1, rfl⟩) (fun h => h) (fun h => h))).mono ?_
      rintro e w5 ⟨rfl, T5, hS5⟩
      have T6 := ((Turn.of_quiet (ext q wr.heap.size 8) ⟨1, rfl⟩).mono (D := fun x => x = 6) (fun _ h => h.elim)).trans T5 (fun _ h => h)
      have HK5 := Lib.hid (HK2.out.turn T6 (by decide))
      have HT5 := Lib.hid (HT2.out.trans T6 (fun x e => by subst e; unfold ChkC; omega))
      have HR5 := Lib.hid (HR2.out.turn T6 (by decide))
      have HX5 := Lib.hid (HX.out.turn T6 (by decide))
      have HC5 := Lib.hid (fun (e : takeE kk.outs p.src p.sport = 0) => HC2.out.tookO T6 (hS5 e))
      clear T5 T6 hS5 HK2 HT2 HR2 HX HC2 HSO y0 y1 y7
      generalize ext q wr.heap.size 8 = q5 at *
      obtain ⟨te, hte⟩ : ∃ x, takeE kk.outs p.src p.sport = x := ⟨_, rfl⟩
      rw [hte] at HEC HC5 ⊢
      clear hte
      by_cases h0 : te = 0
      · subst h0
        have hC6 := HC5.out rfl
        have HC6 := Lib.hid hC6
        obtain ⟨gI, hSI⟩ := hC6.ins
        have HSI := Lib.hid hSI
        have y2 := HX5.out.cell 2 _ rfl
        have y3 := HX5.out.cell 3 _ rfl
        have y6 := hC6.cells.2.2.2.2.2.2.1
        rw [if_neg (by simp)] at HEC
        clear hC6 hSI HC5
        go_wp2_with fail
        refine wp_region_lex (fun w' => w'.cell? ⟨C, 6, none⟩ = some X.vI ∧ w'.cell? ⟨wr.heap.size, 2, none⟩ = some (.int .i64 p.dst) ∧ w'.cell? ⟨wr.heap.size, 3, none⟩ = some (.int .i64 p.dport)) [0, 1, 2, 3, 4, 5, 6, 7] [8, 9] (by kernel_rfl) (by kernel_rfl) rfl (fun _ _ hx h => ⟨hx.cell h.1, hx.cell h.2.1, hx.cell h.2.2⟩) ⟨y6, y2, y3⟩ ?_
        intro Q' hQ'
        simp only [pickOps, List.flatMap_cons, List.flatMap_nil, List.drop_succ_cons, List.drop_zero, List.take_succ_cons, List.take_zero, List.cons_append, List.nil_append, List.append_nil]
        repeat (first
          | (refine wpReads_skip (by rfl) ?_; (try simp only [Act.put, List.setIfInBounds_toArray, List.set_cons_zero, List.set_cons_succ]))
          | (refine wpReads_cons ?_ (by rfl) (by rfl) ?_ ?_; rotate_left; (intro wz hz; (try dsimp only at hz); go_simp; try with_reducible rfl); (try simp only [Act.put, List.setIfInBounds_toArray, List.set_cons_zero, List.set_cons_succ]))
          | (refine wpReads_any ?_ (by rfl) ?_ ?_; rotate_left; (intro wz; go_simp; try with_reducible rfl); (try simp only [Act.put, List.setIfInBounds_toArray, List.set_cons_zero, List.set_cons_succ])))
        refine wpReads_nil ?_
        go_wp2_with fail
        refine (gtake_any _ q5 3 4 X.vI kk.ins gI p.dst p.dport (by decide) (HSI.out.turn (Turn.of_quiet _ ⟨1, rfl⟩) (fun h => h) (fun h => h))).mono ?_
        rintro e w7 ⟨rfl, T7, hS7⟩
        have T8 := ((Turn.of_quiet q5 ⟨1, rfl⟩).mono (D := fun x => x = 4) (fun _ h => h.elim)).trans T7 (fun _ h => h)
        have HK7 := Lib.hid (HK5.out.turn T8 (by decide))
        have HT7 := Lib.hid (HT5.out.trans T8 (fun x e => by subst e; unfold ChkC; omega))
        have HR7 := Lib.hid (HR5.out.turn T8 (by decide))
        have HX7 := Lib.hid (HX5.out.turn T8 (by decide))
        have HC7 := Lib.hid (fun (e : takeE kk.ins p.dst p.dport = 0) => HC6.out.tookI T8 (hS7 e))
        clear T7 T8 hS7 HK5 HT5 HR5 HX5 HC6 HSI y2 y3 y6
        obtain ⟨te, hte⟩ : ∃ x, takeE kk.ins p.dst p.dport = x := ⟨_, rfl⟩
        rw [hte] at HEC HC7 ⊢
        clear hte
        by_cases h0 : te = 0
        · subst h0
          have HC8 : Hid (ChkAt w7 q5 C B X (edgeC kk p)) := Lib.hid (HC7.out rfl)
          rw [if_neg (by simp)] at HEC
          have y4 := HX7.out.cell 4 _ rfl
          by_cases h256 : 256 < p.start.length
          · have h2i : (256 : Int) < p.start.length := by omega
            have e : E = 88 := by rw [← HEC.out, if_pos h256]
            subst e
            have z0 := HR7.out.cell 0 _ rfl
            have z1 := HR7.out.cell 1 _ rfl
            have z2 := HR7.out.cell 2 _ rfl
            have f0 := HR7.out.frozen 0
            have f1 := HR7.out.frozen 1
            have f2 := HR7.out.frozen 2
            go_wp2
            refine bodyPost_ret_by (results_tmp_row rfl _ _ _ _ _ _ _ rfl (spot_set HR7.out) Try.underlying140 rfl (by kernel_rfl)) rfl ?_
            exact ⟨⟨_, _, _, rfl⟩, _, HT7.out.late 7 (spot_mods (by have := HRE.out; omega) _ _ _), fun h => by cases h⟩
          · have h2i : ¬ (256 : Int) < p.start.length := by omega
            rw [if_neg h256] at HEC
            have HE2 : Hid (edgesE (edgesC k (l.take (j + 1))) (l.drop (j + 1)) = E) := Lib.hid (by rw [HCn.out]; exact HEC.out)
            have HC9 : Hid (ChkAt w7 q5 C B X (edgesC k (l.take (j + 1)))) := Lib.hid (by rw [HCn.out]; exact HC8.out)
            have hnn := HN.out
            clear HC7 HC8 HEC
            go_wp2
            go_roundw
            case rel => exact ⟨j + 1, q5, hlt, by go_num, HK7.out, HT7.out, HR7.out, HC9.out, HE2.out⟩
            case measure => simp [intOf]; omega
        · have e : E = te := by rw [← HEC.out, if_pos h0]
          subst e
          have z0 := HR7.out.cell 0 _ rfl
          have z1 := HR7.out.cell 1 _ rfl
          have z2 := HR7.out.cell 2 _ rfl
          have f0 := HR7.out.frozen 0
          have f1 := HR7.out.frozen 1
          have f2 := HR7.out.frozen 2
          go_wp2
          refine bodyPost_ret_by (results_tmp_row rfl _ _ _ _ _ _ _ rfl (spot_set HR7.out) Try.underlying140 rfl (by kernel_rfl)) rfl ?_
          exact ⟨⟨_, _, _, rfl⟩, _, HT7.out.late 7 (spot_mods (by have := HRE.out; omega) _ _ _), fun h => absurd h h0⟩
      · have e : E = te := by rw [← HEC.out, if_pos h0]
        subst e
        have z0 := HR5.out.cell 0 _ rfl
        have z1 := HR5.out.cell 1 _ rfl
        have z2 := HR5.out.cell 2 _ rfl
        have f0 := HR5.out.frozen 0
        have f1 := HR5.out.frozen 1
        have f2 := HR5.out.frozen 2
        go_wp2
        refine bodyPost_ret_by (results_tmp_row rfl _ _ _ _ _ _ _ rfl (spot_set HR5.out) Try.underlying140 rfl (by kernel_rfl)) rfl ?_
        exact ⟨⟨_, _, _, rfl⟩, _, HT5.out.late 7 (spot_mods (by have := HRE.out; omega) _ _ _), fun h => absurd h h0⟩
    · obtain rfl : j = l.length := by omega
      have hfin := HE.out
      rw [List.drop_length, List.take_length] at hfin
      obtain rfl : E = 0 := hfin.symm
      have hC9 := HC.out
      rw [List.take_length] at hC9
      have HC9 := Lib.hid hC9
      clear hfin hC9
      have z0 := HR.out.cell 0 _ rfl
      have z1 := HR.out.cell 1 _ rfl
      have z2 := HR.out.cell 2 _ rfl
      have f0 := HR.out.frozen 0
      have f1 := HR.out.frozen 1
      have f2 := HR.out.frozen 2
      go_wp2
      refine bodyPost_ret_by (results_tmp_row rfl _ _ _ _ _ _ _ rfl (spot_set HR.out) Try.underlying140 rfl (by kernel_rfl)) rfl ?_
      exact ⟨⟨_, _, _, rfl⟩, _, HT.out.late 7 (spot_mods (by have := HRE.out; omega) _ _ _), fun _ => HC9.out.spot HR.out _ _ _⟩
end Go.Proofs.Ytbmbfifempkhgaa
