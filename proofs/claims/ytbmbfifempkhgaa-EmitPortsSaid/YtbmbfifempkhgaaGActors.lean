/- The checker's actors. -/
import Derived.Test.YtbmbfifempkhgaaGPush
import Derived.Test.YtbmbfifempkhgaaOfAll
import Derived.Test.YtbmbfifempkhgaaReg2
namespace Go.Proofs.Ytbmbfifempkhgaa
open Go.RowKit


/-- what 'actors' answers -/
def ChkRetA (w : World) (o : Col) (C B : Nat) (X : ChkV) (E : Int) (k : Chk) (e : Ending) (w' : World) : Prop := SpotRet E e ∧ ∃ o' vI vO, Turn o o' ChkC w w' ∧ (E = 0 → ChkAt w' o' C B ⟨X.name, X.va, X.ve, X.vi, X.vo, vI, vO⟩ k)

theorem actorsE_cons {c : Chk} {l : List GActor} {j : Nat} (h : j < l.length) : actorsE c (l.drop j) = if actorE c.seen l[j] ≠ 0 then actorE c.seen l[j] else actorsE (actorC c l[j]) (l.drop (j + 1)) := by
  rw [List.drop_eq_getElem_cons h, actorsE]
theorem actorsC_snoc {c : Chk} {l : List GActor} {j : Nat} (h : j < l.length) : actorsC c (l.take (j + 1)) = actorC (actorsC c (l.take j)) l[j] := by
  rw [List.take_succ_eq_append_getElem h, actorsC, List.foldl_append]; rfl
theorem actorsC_seen (l : List GActor) : ∀ c : Chk, (actorsC c l).seen = c.seen ++ l.map GActor.name := by
  induction l with
  | nil => intro c; simp [actorsC]
  | cons a r ih => intro c; rw [show actorsC c (a :: r) = actorsC (actorC c a) r from rfl, ih]; simp [actorC]
theorem actorsC_rows (l : List GActor) : ∀ c : Chk, (actorsC c l).ins.length = c.ins.length + l.length ∧ (actorsC c l).outs.length = c.outs.length + l.length := by
  induction l with
  | nil => intro c; simp [actorsC]
  | cons a r ih => intro c; rw [show actorsC c (a :: r) = actorsC (actorC c a) r from rfl, (ih _).1, (ih _).2]; simp [actorC]; omega
theorem shape_len {t : Int} {ps : List Int} (h : goodP t ps) : (insP t ps).length ≤ 16 ∧ (outsP t ps).length ≤ 16 := by
  have h1 : oneP ps 16 → (hd ps).toNat ≤ 16 := fun h => by unfold oneP at h; omega
  have h2 : pairP ps → (hd ps).toNat ≤ 16 := fun h => by unfold pairP at h; omega
  unfold goodP at h
  rcases h with ⟨rfl, h⟩ | ⟨rfl, h⟩ | ⟨rfl, h⟩ | ⟨rfl, h⟩ | ⟨rfl, h⟩ | ⟨rfl, h⟩ | ⟨rfl, h⟩ | ⟨rfl, h⟩ | ⟨rfl, h⟩ | ⟨rfl, h⟩ | ⟨rfl, h⟩ <;> simp [insP, outsP] <;> first | (have := h1 h; omega) | (have := h2 h; omega) | skip


set_option maxRecDepth 100000 in
set_option maxHeartbeats 4000000 in
theorem gactors_any (w0 w : World) (o : Col) (C B : Nat) (X : ChkV) (k : Chk) (l : List GActor) (hv : Recs w0 3 ActorR X.va l) (K : Kept w0.heap.size o w0 w) (hn : k.seen.length + l.length ≤ 1000000) (hi0 : k.ins.length + l.length ≤ 1000000) (ho0 : k.outs.length + l.length ≤ 1000000)
    (hs : ∀ p ∈ l, p.name.size ≤ 4611686018427387904 ∧ p.params.length ≤ 17600000000000) (h : ChkAt w o C B X k) :
    Calls Try.prog 97 #[.pointer (some ⟨C, 0, none⟩)] w (ChkRetA w o C B X (actorsE k l) (actorsC k l)) := by
  obtain ⟨i1, bi, bz0, bz1, bz2⟩ := info_parts info_bools
  obtain ⟨ao, cap, hve⟩ := hv.slice
  rw [hve] at hv
  obtain ⟨E, hE⟩ : ∃ E, actorsE k l = E := ⟨_, rfl⟩
  rw [hE]
  have HE := Lib.hid (show actorsE (actorsC k (l.take 0)) (l.drop 0) = E by simpa [actorsC] using hE)
  have HV := Lib.hid hv
  have HVE := Lib.hid hve
  have HN := Lib.hid hn
  have HI := Lib.hid hi0
  have HO := Lib.hid ho0
  have HSZ := Lib.hid hs
  have hbR := below_alloc w (.cells #[.int .u8 0, .int .i64 0, .int .i64 0] 140)
  have HT0 := Lib.hid ((Turn.of_below o 7 hbR).mono (D := ChkC) (fun _ h => h.elim))
  have HK0 := Lib.hid (K.of_below 7 hbR)
  have hC0 := h.below 7 hbR
  have q1 := hC0.cells.2.1
  rw [hve] at q1
  have HC0 : Hid (ChkAt _ _ C B X (actorsC k (l.take 0))) := Lib.hid (by simpa [actorsC] using hC0)
  have HR0 := Lib.hid (spot_new w o 7)
  clear hE hv hve hn hi0 ho0 hs K h hbR hC0
  go_enter Try.func97, Try.ntmps97
  go_wp2_with fail
  clear q1
  obtain ⟨R, hR⟩ : ∃ R, w.heap.size = R := ⟨_, rfl⟩
  have HRE := Lib.hid hR
  rw [hR] at HR0 HT0 HK0 HC0 ⊢
  clear hR
  go_loopw [15] (fun i wr => ∃ (j : Nat) (q : Col) (vI vO : Value), j ≤ l.length ∧ i = .int .i64 j ∧ Kept w0.heap.size q w0 wr ∧ Turn o q ChkC w wr ∧ Blk wr q 7 R 140 #[.int .u8 0, .int .i64 0, .int .i64 0] ∧ ChkAt wr q C B ⟨X.name, X.va, X.ve, X.vi, X.vo, vI, vO⟩ (actorsC k (l.take j)) ∧ actorsE (actorsC k (l.take j)) (l.drop j) = E) (fun i _ => l.length - (intOf i).toNat)
  case atStart => exact ⟨0, _, X.vI, X.vO, Nat.zero_le _, rfl, HK0.out, HT0.out, HR0.out, HC0.out, HE.out⟩
  case round =>
    clear HK0 HT0 HR0 HC0 HE
    obtain ⟨j, q, vI, vO, hj, rfl, hK, hT, hR, hC, hE⟩ := hrel
    have HK := Lib.hid hK
    have HT := Lib.hid hT
    have HR := Lib.hid hR
    have HC := Lib.hid hC
    have HE := Lib.hid hE
    clear hK hT hR hC hE
    by_cases hlt : j < l.length
    · have hlti : (j : Int) < l.length := by omega
      obtain ⟨b0, off, rfl, hcap, hb0, hrec⟩ := HV.out.at (by omega)
      obtain ⟨cs, hcs, hPR, hcl⟩ := hrec j hlt
      obtain ⟨xs, rfl, hst⟩ := hPR
      have c0 := cell_later HK.out.below (hcl 0 (by omega))
      have c1 := cell_later HK.out.below (hcl 1 (by omega))
      have c2 := cell_later HK.out.below (hcl 2 (by omega))
      simp at c0 c1 c2
      have hcapi : (l.length : Int) ≤ cap := by omega
      have hEc := HE.out
      rw [actorsE_cons hlt] at hEc
      have HEC := Lib.hid hEc
      have HCn := Lib.hid (actorsC_snoc (c := k) hlt)
      have hpz := HSZ.out l[j] (List.getElem_mem hlt)
      have hsl : (actorsC k (l.take j)).seen.length ≤ 1000000 := by rw [actorsC_seen]; have := HN.out; simp; omega
      have hil : (actorsC k (l.take j)).ins.length ≤ 1000000 := by rw [(actorsC_rows _ _).1]; have := HI.out; simp; omega
      have hol : (actorsC k (l.take j)).outs.length ≤ 1000000 := by rw [(actorsC_rows _ _).2]; have := HO.out; simp; omega
      have hst2 : Has w0 xs (ivs l[j].params) := hst
      obtain ⟨sa, sc, hxs⟩ := Ints.slice hst2
      subst hxs
      have HST := Lib.hid hst2
      clear hcl hcs hrec hst hst2 hEc HE
      generalize l[j] = p at *
      obtain ⟨kk, hkk⟩ : ∃ x, actorsC k (l.take j) = x := ⟨_, rfl⟩
      rw [hkk] at HEC HC HCn hsl hil hol
      clear hkk
      have hbX := below_alloc wr (.cells #[.string p.name, .int .u8 p.tag, .slice sa p.params.length sc] 57)
      have hX : Blk (wr.alloc (.cells #[.string p.name, .int .u8 p.tag, .slice sa p.params.length sc] 57)) (ext q wr.heap.size 8) 8 wr.heap.size 57 #[.string p.name, .int .u8 p.tag, .slice sa p.params.length sc] := ⟨heap_alloc_new wr _, ext_new (Nat.le_refl _)⟩
      have hTX := (Turn.of_below q 8 hbX).mono (D := ChkC) (fun _ h => h.elim)
      have HK2 := Lib.hid (HK.out.of_below 8 hbX)
      have HT2 := Lib.hid (HT.out.trans hTX (fun _ h => h))
      have HR2 := Lib.hid (HR.out.turn (Turn.of_below q 8 hbX) (fun h => h))
      have HC2 := Lib.hid (HC.out.below 8 hbX)
      have HX := Lib.hid hX
      clear hbX hX hTX HK HT HR HC
      go_wp2_with fail
      refine (gname_any _ (ext q wr.heap.size 8) C B _ kk p.name hpz.1 hsl HC2.out).mono ?_
      rintro e w4 ⟨rfl, o4, T40, hC4⟩
      have T4 := T40.mono (D := ChkC) (fun x e => by subst e; unfold ChkC; omega)
      have HK4 := Lib.hid (HK2.out.turn T4 (by unfold ChkC; omega))
      have HT4 := Lib.hid (HT2.out.trans T4 (fun _ h => h))
      have HR4 := Lib.hid (HR2.out.turn T4 (by unfold ChkC; omega))
      have HX4 := Lib.hid (HX.out.turn T4 (by unfold ChkC; omega))
      have HC4 := Lib.hid hC4
      clear T40 T4 hC4 HK2 HT2 HR2 HC2 HX
      obtain ⟨ne, hne⟩ : ∃ x, nameE kk.seen p.name = x := ⟨_, rfl⟩
      rw [hne] at HC4 ⊢
      have HNE := Lib.hid hne
      clear hne
      by_cases h0 : ne = 0
      · subst h0
        have HC5 := Lib.hid (HC4.out rfl)
        have x1 := HX4.out.cell 1 _ rfl
        have x2 := HX4.out.cell 2 _ rfl
        have HP4 : Hid (Has w4 (.slice sa p.params.length sc) (ivs p.params)) := Lib.hid (HST.out.below HK4.out.below)
        clear HC4
        go_wp2_with fail
        by_cases hg : goodP p.tag p.params
        · have HG := Lib.hid hg
          have HSL := Lib.hid (shape_len hg)
          refine (of_ok _ p.tag sa _ sc p.params hg hpz.2 HP4.out).mono ?_
          rintro e w5 ⟨vi, vo, rfl, p1, p2, hb5⟩
          obtain ⟨a1, c1', rfl⟩ := owns_slice p1
          obtain ⟨a2, c2', rfl⟩ := owns_slice p2
          have HK5 := Lib.hid (HK4.out.of_below 9 hb5)
          have HT5 := Lib.hid (HT4.out.trans ((Turn.of_below o4 9 hb5).mono (D := ChkC) (fun _ h => h.elim)) (fun _ h => h))
          have HR5 := Lib.hid (HR4.out.turn (Turn.of_below o4 9 hb5) (fun h => h))
          have HC6 := Lib.hid (HC5.out.below 9 hb5)
          clear p1 p2 hb5 HK4 HT4 HR4 HX4 HC5 HP4 x1 x2 hg
          generalize ext o4 w4.heap.size 9 = q5 at *
          obtain ⟨n1, hn1⟩ : ∃ n, (insP p.tag p.params).length = n := ⟨_, rfl⟩
          obtain ⟨n2, hn2⟩ : ∃ n, (outsP p.tag p.params).length = n := ⟨_, rfl⟩
          have HN1 := Lib.hid hn1
          have HN2 := Lib.hid hn2
          rw [hn1, hn2] at HSL ⊢
          have hn16 := HSL.out
          clear hn1 hn2 HSL
          go_wp2_with fail
          obtain ⟨gI, hSI⟩ := HC6.out.ins
          have hown := hSI.own.1
          obtain ⟨ia, ic, hIv⟩ := hSI.own.slice
          have y6 := HC6.out.cells.2.2.2.2.2.2.1
          have hFZ := HC6.out.froz 6
          rw [hIv] at y6 hown
          have hr := make_bools (w5).drew n1 (by omega)
          have HSI := Lib.hid hSI
          have HIV := Lib.hid hIv
          have hlen := hil
          clear hSI hIv
          have y6a := ca (o := .cells (bvs (List.replicate n1 false)).toArray 4) (w := w5) y6
          refine wp_region_rest (fun w' => w'.cell? ⟨C, 6, none⟩ = some (.slice ia kk.ins.length ic)) [0, 1, 2, 3, 4, 5, 6] [7, 9] 6 (by kernel_rfl) (by kernel_rfl) rfl y6 ?_
          intro Q' hQ'
          simp only [pickOps, List.flatMap_cons, List.flatMap_nil, List.drop_succ_cons, List.drop_zero, List.take_succ_cons, List.take_zero, List.cons_append, List.nil_append, List.append_nil]
          repeat (first
            | (refine wpReads_skip (by rfl) ?_; (try simp only [Act.put, List.setIfInBounds_toArray, List.set_cons_zero, List.set_cons_succ]))
            | (refine wpReads_cons ?_ (by rfl) (by rfl) ?_ ?_; rotate_left; (intro wz hz; (try dsimp only at hz); go_simp; try with_reducible rfl); (try simp only [Act.put, List.setIfInBounds_toArray, List.set_cons_zero, List.set_cons_succ]))
            | (refine wpReads_any ?_ (by rfl) ?_ ?_; rotate_left; (intro wz; go_simp; try with_reducible rfl); (try simp only [Act.put, List.setIfInBounds_toArray, List.set_cons_zero, List.set_cons_succ])))
          refine wpReads_nil ?_
          refine wpAnyT_one (i := 7) (by kernel_rfl) ?_
          simp only [pickOps, List.flatMap_cons, List.flatMap_nil, List.drop_succ_cons, List.drop_zero, List.take_succ_cons, List.take_zero, List.cons_append, List.nil_append, List.append_nil]
          go_wp2
          refine ⟨by first | exact fun _ _ => y6a | exact fun _ => y6a, ?_⟩
          refine wpAnyT_one (i := 8) (by kernel_rfl) ?_
          simp only [pickOps, List.flatMap_cons, List.flatMap_nil, List.drop_succ_cons, List.drop_zero, List.take_succ_cons, List.take_zero, List.cons_append, List.nil_append, List.append_nil]
          go_wp2
          refine ⟨by first | exact fun _ h => ca h | exact fun _ => ca y6a, ?_⟩
          refine wpAnyT_one (i := 9) (by kernel_rfl) ?_
          simp only [pickOps, List.flatMap_cons, List.flatMap_nil, List.drop_succ_cons, List.drop_zero, List.take_succ_cons, List.take_zero, List.cons_append, List.nil_append, List.append_nil]
          go_wp2_with (at_builtin; refine stop_here ?_)
          refine go_on ?_
          have hown2 : (((w5).alloc (.cells (bvs (List.replicate n1 false)).toArray 4)).alloc (.cells #[.slice (some ⟨(w5).heap.size, 0, none⟩) n1 n1] 192)).ownsRow 0 192 1 (.slice ia kk.ins.length ic) kk.ins.length (rowsV kk.ins gI) := (hown.alloc _).alloc _
          refine wpList_app rfl _ _ 177 rfl 0 192 i1 _ 1 24 Try.underlying177 bi bz0 bz1 bz2 rfl (.slice ia kk.ins.length ic) kk.ins.length _ rfl hown2 (some ⟨(w5).heap.size + 1, 0, none⟩) 1 1 [.slice (some ⟨(w5).heap.size, 0, none⟩) n1 n1] rfl rfl (fun h => by cases h) (by simpa using news_alloc ((w5).alloc (.cells (bvs (List.replicate n1 false)).toArray 4)) [.slice (some ⟨(w5).heap.size, 0, none⟩) n1 n1] 192) (by simp [Value.oneCell']) (by unfold maxLen; omega) (grow_ok (by omega)) (Nat.zero_le _) ?_
          intro v7 w7 k1 k20 _ k4
          have k2 : (((w5).alloc (.cells (bvs (List.replicate n1 false)).toArray 4)).alloc (.cells #[.slice (some ⟨(w5).heap.size, 0, none⟩) n1 n1] 192)).grownBy w7 (Value.slice ia kk.ins.length ic).ownBlock := ⟨k20.os, k20.tape, k20.output, k20.size, k20.block⟩
          have k4' : v7.ownBlock = (Value.slice ia kk.ins.length ic).ownBlock ∨ v7.ownBlock = some (((w5).alloc (.cells (bvs (List.replicate n1 false)).toArray 4)).alloc (.cells #[.slice (some ⟨(w5).heap.size, 0, none⟩) n1 n1] 192)).heap.size := k4
          obtain ⟨s7, c7, rfl⟩ := owns_slice k1
          obtain ⟨⟨z6, zf⟩, TP, CP⟩ := HC6.out.pushI HSI.out n1 k1 (by rw [HIV.out]; exact k2) (by rw [HIV.out]; exact k4')
          rw [HIV.out] at z6
          have HK7 := Lib.hid (HK5.out.turn TP (by unfold ChkC; omega))
          have HT7 := Lib.hid (HT5.out.trans TP (fun _ h => h))
          have HR7 := Lib.hid (HR5.out.turn TP (by unfold ChkC; omega))
          have HC7 := Lib.hid CP
          clear TP CP k1 k2 k20 k4 k4' hown hown2 hr y6 y6a hFZ HK5 HT5 HR5 HC6 HSI
          refine ⟨by first | exact fun _ _ => z6 | exact fun _ => z6, ?_⟩
          refine wpAnyT_list (ks := [10, 11, 12]) (fun _ _ hx h => hx.cell h) (by kernel_rfl) ?_
          simp only [pickOps, List.flatMap_cons, List.flatMap_nil, List.drop_succ_cons, List.drop_zero, List.take_succ_cons, List.take_zero, List.cons_append, List.nil_append, List.append_nil]
          go_wp2_with fail
          clear HIV z6 zf
          generalize w7.setCell ⟨C, 6, none⟩ (.slice s7 (kk.ins.length + 1) c7) = w8 at *
          generalize ext2 q5 w5.heap.size 4 3 = q8 at *
          obtain ⟨gO, hSI⟩ := HC7.out.outs
          have hown := hSI.own.1
          obtain ⟨ia, ic, hIv⟩ := hSI.own.slice
          have y6 := HC7.out.cells.2.2.2.2.2.2.2
          have hFZ := HC7.out.froz 7
          rw [hIv] at y6 hown
          have hr := make_bools (w8).drew n2 (by omega)
          have HSI := Lib.hid hSI
          have HIV := Lib.hid hIv
          have hlen := hol
          clear hSI hIv
          have y6a := ca (o := .cells (bvs (List.replicate n2 false)).toArray 4) (w := w8) y6
          refine wp_region_rest (fun w' => w'.cell? ⟨C, 7, none⟩ = some (.slice ia kk.outs.length ic)) [0, 1, 2, 3, 4, 5, 6] [7, 9] 6 (by kernel_rfl) (by kernel_rfl) rfl y6 ?_
          intro Q' hQ'
          simp only [pickOps, List.flatMap_cons, List.flatMap_nil, List.drop_succ_cons, List.drop_zero, List.take_succ_cons, List.take_zero, List.cons_append, List.nil_append, List.append_nil]
          repeat (first
            | (refine wpReads_skip (by rfl) ?_; (try simp only [Act.put, List.setIfInBounds_toArray, List.set_cons_zero, List.set_cons_succ]))
            | (refine wpReads_cons ?_ (by rfl) (by rfl) ?_ ?_; rotate_left; (intro wz hz; (try dsimp only at hz); go_simp; try with_reducible rfl); (try simp only [Act.put, List.setIfInBounds_toArray, List.set_cons_zero, List.set_cons_succ]))
            | (refine wpReads_any ?_ (by rfl) ?_ ?_; rotate_left; (intro wz; go_simp; try with_reducible rfl); (try simp only [Act.put, List.setIfInBounds_toArray, List.set_cons_zero, List.set_cons_succ])))
          refine wpReads_nil ?_
          refine wpAnyT_one (i := 7) (by kernel_rfl) ?_
          simp only [pickOps, List.flatMap_cons, List.flatMap_nil, List.drop_succ_cons, List.drop_zero, List.take_succ_cons, List.take_zero, List.cons_append, List.nil_append, List.append_nil]
          go_wp2
          refine ⟨by first | exact fun _ _ => y6a | exact fun _ => y6a, ?_⟩
          refine wpAnyT_one (i := 8) (by kernel_rfl) ?_
          simp only [pickOps, List.flatMap_cons, List.flatMap_nil, List.drop_succ_cons, List.drop_zero, List.take_succ_cons, List.take_zero, List.cons_append, List.nil_append, List.append_nil]
          go_wp2
          refine ⟨by first | exact fun _ h => ca h | exact fun _ => ca y6a, ?_⟩
          refine wpAnyT_one (i := 9) (by kernel_rfl) ?_
          simp only [pickOps, List.flatMap_cons, List.flatMap_nil, List.drop_succ_cons, List.drop_zero, List.take_succ_cons, List.take_zero, List.cons_append, List.nil_append, List.append_nil]
          go_wp2_with (at_builtin; refine stop_here ?_)
          refine go_on ?_
          have hown2 : (((w8).alloc (.cells (bvs (List.replicate n2 false)).toArray 4)).alloc (.cells #[.slice (some ⟨(w8).heap.size, 0, none⟩) n2 n2] 192)).ownsRow 0 192 1 (.slice ia kk.outs.length ic) kk.outs.length (rowsV kk.outs gO) := (hown.alloc _).alloc _
          refine wpList_app rfl _ _ 177 rfl 0 192 i1 _ 1 24 Try.underlying177 bi bz0 bz1 bz2 rfl (.slice ia kk.outs.length ic) kk.outs.length _ rfl hown2 (some ⟨(w8).heap.size + 1, 0, none⟩) 1 1 [.slice (some ⟨(w8).heap.size, 0, none⟩) n2 n2] rfl rfl (fun h => by cases h) (by simpa using news_alloc ((w8).alloc (.cells (bvs (List.replicate n2 false)).toArray 4)) [.slice (some ⟨(w8).heap.size, 0, none⟩) n2 n2] 192) (by simp [Value.oneCell']) (by unfold maxLen; omega) (grow_ok (by omega)) (Nat.zero_le _) ?_
          intro v7 w7 k1 k20 _ k4
          have k2 : (((w8).alloc (.cells (bvs (List.replicate n2 false)).toArray 4)).alloc (.cells #[.slice (some ⟨(w8).heap.size, 0, none⟩) n2 n2] 192)).grownBy w7 (Value.slice ia kk.outs.length ic).ownBlock := ⟨k20.os, k20.tape, k20.output, k20.size, k20.block⟩
          have k4' : v7.ownBlock = (Value.slice ia kk.outs.length ic).ownBlock ∨ v7.ownBlock = some (((w8).alloc (.cells (bvs (List.replicate n2 false)).toArray 4)).alloc (.cells #[.slice (some ⟨(w8).heap.size, 0, none⟩) n2 n2] 192)).heap.size := k4
          obtain ⟨s9, c9, rfl⟩ := owns_slice k1
          obtain ⟨⟨z6, zf⟩, TP, CP⟩ := HC7.out.pushO HSI.out n2 k1 (by rw [HIV.out]; exact k2) (by rw [HIV.out]; exact k4')
          rw [HIV.out] at z6
          have HK9 := Lib.hid (HK7.out.turn TP (by unfold ChkC; omega))
          have HT9 := Lib.hid (HT7.out.trans TP (fun _ h => h))
          have HR9 := Lib.hid (HR7.out.turn TP (by unfold ChkC; omega))
          have HC9 := Lib.hid CP
          clear TP CP k1 k2 k20 k4 k4' hown hown2 hr y6 y6a hFZ HK7 HT7 HR7 HC7 HSI
          refine ⟨by first | exact fun _ _ => z6 | exact fun _ => z6, ?_⟩
          refine wpAnyT_list (ks := [10, 11, 12]) (fun _ _ hx h => hx.cell h) (by kernel_rfl) ?_
          simp only [pickOps, List.flatMap_cons, List.flatMap_nil, List.drop_succ_cons, List.drop_zero, List.take_succ_cons, List.take_zero, List.cons_append, List.nil_append, List.append_nil]
          have hEE : E = actorsE (actorC kk p) (l.drop (j + 1)) := by rw [← HEC.out, actorE, HNE.out]; simp [HG.out]
          have HEE := Lib.hid hEE
          have HAC : Hid (actorC kk p = ⟨kk.seen ++ [p.name], kk.ins ++ [List.replicate n1 false], kk.outs ++ [List.replicate n2 false]⟩) := Lib.hid (by rw [← HN1.out, ← HN2.out]; rfl)
          clear hEE
          have hnn := HN.out
          go_wp2
          go_roundw
          case rel => exact ⟨j + 1, _, _, _, hlt, by go_num, HK9.out, HT9.out, HR9.out, by rw [HCn.out, HAC.out]; exact HC9.out, by rw [HCn.out]; exact HEE.out.symm⟩
          case measure => simp [intOf]; omega
        · have HG := Lib.hid hg
          refine (of_no _ p.tag sa _ sc p.params hg hpz.2 HP4.out).mono ?_
          rintro e w5 ⟨he, hb5⟩
          obtain ⟨x, hx⟩ : ∃ x, errP p.tag = x := ⟨_, rfl⟩
          obtain ⟨z, hz⟩ : ∃ z : Nat, z = 0 := ⟨_, rfl⟩
          have hz16 : z ≤ 16 := by omega
          have he' : e = .returned (.tuple #[.slice none z 0, .slice none z 0, .int .i64 x]) := by rw [he, hz, hx]
          subst he'
          clear he hz
          have HK5 := Lib.hid (HK4.out.of_below 9 hb5)
          have HT5 := Lib.hid (HT4.out.trans ((Turn.of_below o4 9 hb5).mono (D := ChkC) (fun _ h => h.elim)) (fun _ h => h))
          have HR5 := Lib.hid (HR4.out.turn (Turn.of_below o4 9 hb5) (fun h => h))
          have HC6 := Lib.hid (HC5.out.below 9 hb5)
          clear hb5 HK4 HT4 HR4 HX4 HC5 HP4 x1 x2 hg
          generalize ext o4 w4.heap.size 9 = q5 at *
          have hx0 : ¬ x = 0 := by rw [← hx]; unfold errP; split <;> decide
          have hEE : E = x := by rw [← HEC.out, actorE, HNE.out]; simp [HG.out, hx, hx0]
          subst hEE
          clear hx
          go_wp2_with fail
          obtain ⟨gI, hSI⟩ := HC6.out.ins
          have hown := hSI.own.1
          obtain ⟨ia, ic, hIv⟩ := hSI.own.slice
          have y6 := HC6.out.cells.2.2.2.2.2.2.1
          have hFZ := HC6.out.froz 6
          rw [hIv] at y6 hown
          have hr := make_bools (w5).drew z (by omega)
          have HSI := Lib.hid hSI
          have HIV := Lib.hid hIv
          have hlen := hil
          clear hSI hIv
          have y6a := ca (o := .cells (bvs (List.replicate z false)).toArray 4) (w := w5) y6
          refine wp_region_rest (fun w' => w'.cell? ⟨C, 6, none⟩ = some (.slice ia kk.ins.length ic)) [0, 1, 2, 3, 4, 5, 6] [7, 9] 6 (by kernel_rfl) (by kernel_rfl) rfl y6 ?_
          intro Q' hQ'
          simp only [pickOps, List.flatMap_cons, List.flatMap_nil, List.drop_succ_cons, List.drop_zero, List.take_succ_cons, List.take_zero, List.cons_append, List.nil_append, List.append_nil]
          repeat (first
            | (refine wpReads_skip (by rfl) ?_; (try simp only [Act.put, List.setIfInBounds_toArray, List.set_cons_zero, List.set_cons_succ]))
            | (refine wpReads_cons ?_ (by rfl) (by rfl) ?_ ?_; rotate_left; (intro wz hz; (try dsimp only at hz); go_simp; try with_reducible rfl); (try simp only [Act.put, List.setIfInBounds_toArray, List.set_cons_zero, List.set_cons_succ]))
            | (refine wpReads_any ?_ (by rfl) ?_ ?_; rotate_left; (intro wz; go_simp; try with_reducible rfl); (try simp only [Act.put, List.setIfInBounds_toArray, List.set_cons_zero, List.set_cons_succ])))
          refine wpReads_nil ?_
          refine wpAnyT_one (i := 7) (by kernel_rfl) ?_
          simp only [pickOps, List.flatMap_cons, List.flatMap_nil, List.drop_succ_cons, List.drop_zero, List.take_succ_cons, List.take_zero, List.cons_append, List.nil_append, List.append_nil]
          go_wp2
          refine ⟨by first | exact fun _ _ => y6a | exact fun _ => y6a, ?_⟩
          refine wpAnyT_one (i := 8) (by kernel_rfl) ?_
          simp only [pickOps, List.flatMap_cons, List.flatMap_nil, List.drop_succ_cons, List.drop_zero, List.take_succ_cons, List.take_zero, List.cons_append, List.nil_append, List.append_nil]
          go_wp2
          refine ⟨by first | exact fun _ h => ca h | exact fun _ => ca y6a, ?_⟩
          refine wpAnyT_one (i := 9) (by kernel_rfl) ?_
          simp only [pickOps, List.flatMap_cons, List.flatMap_nil, List.drop_succ_cons, List.drop_zero, List.take_succ_cons, List.take_zero, List.cons_append, List.nil_append, List.append_nil]
          go_wp2_with (at_builtin; refine stop_here ?_)
          refine go_on ?_
          have hown2 : (((w5).alloc (.cells (bvs (List.replicate z false)).toArray 4)).alloc (.cells #[.slice (some ⟨(w5).heap.size, 0, none⟩) z z] 192)).ownsRow 0 192 1 (.slice ia kk.ins.length ic) kk.ins.length (rowsV kk.ins gI) := (hown.alloc _).alloc _
          refine wpList_app rfl _ _ 177 rfl 0 192 i1 _ 1 24 Try.underlying177 bi bz0 bz1 bz2 rfl (.slice ia kk.ins.length ic) kk.ins.length _ rfl hown2 (some ⟨(w5).heap.size + 1, 0, none⟩) 1 1 [.slice (some ⟨(w5).heap.size, 0, none⟩) z z] rfl rfl (fun h => by cases h) (by simpa using news_alloc ((w5).alloc (.cells (bvs (List.replicate z false)).toArray 4)) [.slice (some ⟨(w5).heap.size, 0, none⟩) z z] 192) (by simp [Value.oneCell']) (by unfold maxLen; omega) (grow_ok (by omega)) (Nat.zero_le _) ?_
          intro v7 w7 k1 k20 _ k4
          have k2 : (((w5).alloc (.cells (bvs (List.replicate z false)).toArray 4)).alloc (.cells #[.slice (some ⟨(w5).heap.size, 0, none⟩) z z] 192)).grownBy w7 (Value.slice ia kk.ins.length ic).ownBlock := ⟨k20.os, k20.tape, k20.output, k20.size, k20.block⟩
          have k4' : v7.ownBlock = (Value.slice ia kk.ins.length ic).ownBlock ∨ v7.ownBlock = some (((w5).alloc (.cells (bvs (List.replicate z false)).toArray 4)).alloc (.cells #[.slice (some ⟨(w5).heap.size, 0, none⟩) z z] 192)).heap.size := k4
          obtain ⟨s7, c7, rfl⟩ := owns_slice k1
          obtain ⟨⟨z6, zf⟩, TP, CP⟩ := HC6.out.pushI HSI.out z k1 (by rw [HIV.out]; exact k2) (by rw [HIV.out]; exact k4')
          rw [HIV.out] at z6
          have HK7 := Lib.hid (HK5.out.turn TP (by unfold ChkC; omega))
          have HT7 := Lib.hid (HT5.out.trans TP (fun _ h => h))
          have HR7 := Lib.hid (HR5.out.turn TP (by unfold ChkC; omega))
          have HC7 := Lib.hid CP
          clear TP CP k1 k2 k20 k4 k4' hown hown2 hr y6 y6a hFZ HK5 HT5 HR5 HC6 HSI
          refine ⟨by first | exact fun _ _ => z6 | exact fun _ => z6, ?_⟩
          refine wpAnyT_list (ks := [10, 11, 12]) (fun _ _ hx h => hx.cell h) (by kernel_rfl) ?_
          simp only [pickOps, List.flatMap_cons, List.flatMap_nil, List.drop_succ_cons, List.drop_zero, List.take_succ_cons, List.take_zero, List.cons_append, List.nil_append, List.append_nil]
          go_wp2_with fail
          clear HIV z6 zf
          generalize w7.setCell ⟨C, 6, none⟩ (.slice s7 (kk.ins.length + 1) c7) = w8 at *
          generalize ext2 q5 w5.heap.size 4 3 = q8 at *
          obtain ⟨gO, hSI⟩ := HC7.out.outs
          have hown := hSI.own.1
          obtain ⟨ia, ic, hIv⟩ := hSI.own.slice
          have y6 := HC7.out.cells.2.2.2.2.2.2.2
          have hFZ := HC7.out.froz 7
          rw [hIv] at y6 hown
          have hr := make_bools (w8).drew z (by omega)
          have HSI := Lib.hid hSI
          have HIV := Lib.hid hIv
          have hlen := hol
          clear hSI hIv
          have y6a := ca (o := .cells (bvs (List.replicate z false)).toArray 4) (w := w8) y6
          refine wp_region_rest (fun w' => w'.cell? ⟨C, 7, none⟩ = some (.slice ia kk.outs.length ic)) [0, 1, 2, 3, 4, 5, 6] [7, 9] 6 (by kernel_rfl) (by kernel_rfl) rfl y6 ?_
          intro Q' hQ'
          simp only [pickOps, List.flatMap_cons, List.flatMap_nil, List.drop_succ_cons, List.drop_zero, List.take_succ_cons, List.take_zero, List.cons_append, List.nil_append, List.append_nil]
          repeat (first
            | (refine wpReads_skip (by rfl) ?_; (try simp only [Act.put, List.setIfInBounds_toArray, List.set_cons_zero, List.set_cons_succ]))
            | (refine wpReads_cons ?_ (by rfl) (by rfl) ?_ ?_; rotate_left; (intro wz hz; (try dsimp only at hz); go_simp; try with_reducible rfl); (try simp only [Act.put, List.setIfInBounds_toArray, List.set_cons_zero, List.set_cons_succ]))
            | (refine wpReads_any ?_ (by rfl) ?_ ?_; rotate_left; (intro wz; go_simp; try with_reducible rfl); (try simp only [Act.put, List.setIfInBounds_toArray, List.set_cons_zero, List.set_cons_succ])))
          refine wpReads_nil ?_
          refine wpAnyT_one (i := 7) (by kernel_rfl) ?_
          simp only [pickOps, List.flatMap_cons, List.flatMap_nil, List.drop_succ_cons, List.drop_zero, List.take_succ_cons, List.take_zero, List.cons_append, List.nil_append, List.append_nil]
          go_wp2
          refine ⟨by first | exact fun _ _ => y6a | exact fun _ => y6a, ?_⟩
          refine wpAnyT_one (i := 8) (by kernel_rfl) ?_
          simp only [pickOps, List.flatMap_cons, List.flatMap_nil, List.drop_succ_cons, List.drop_zero, List.take_succ_cons, List.take_zero, List.cons_append, List.nil_append, List.append_nil]
          go_wp2
          refine ⟨by first | exact fun _ h => ca h | exact fun _ => ca y6a, ?_⟩
          refine wpAnyT_one (i := 9) (by kernel_rfl) ?_
          simp only [pickOps, List.flatMap_cons, List.flatMap_nil, List.drop_succ_cons, List.drop_zero, List.take_succ_cons, List.take_zero, List.cons_append, List.nil_append, List.append_nil]
          go_wp2_with (at_builtin; refine stop_here ?_)
          refine go_on ?_
          have hown2 : (((w8).alloc (.cells (bvs (List.replicate z false)).toArray 4)).alloc (.cells #[.slice (some ⟨(w8).heap.size, 0, none⟩) z z] 192)).ownsRow 0 192 1 (.slice ia kk.outs.length ic) kk.outs.length (rowsV kk.outs gO) := (hown.alloc _).alloc _
          refine wpList_app rfl _ _ 177 rfl 0 192 i1 _ 1 24 Try.underlying177 bi bz0 bz1 bz2 rfl (.slice ia kk.outs.length ic) kk.outs.length _ rfl hown2 (some ⟨(w8).heap.size + 1, 0, none⟩) 1 1 [.slice (some ⟨(w8).heap.size, 0, none⟩) z z] rfl rfl (fun h => by cases h) (by simpa using news_alloc ((w8).alloc (.cells (bvs (List.replicate z false)).toArray 4)) [.slice (some ⟨(w8).heap.size, 0, none⟩) z z] 192) (by simp [Value.oneCell']) (by unfold maxLen; omega) (grow_ok (by omega)) (Nat.zero_le _) ?_
          intro v7 w7 k1 k20 _ k4
          have k2 : (((w8).alloc (.cells (bvs (List.replicate z false)).toArray 4)).alloc (.cells #[.slice (some ⟨(w8).heap.size, 0, none⟩) z z] 192)).grownBy w7 (Value.slice ia kk.outs.length ic).ownBlock := ⟨k20.os, k20.tape, k20.output, k20.size, k20.block⟩
          have k4' : v7.ownBlock = (Value.slice ia kk.outs.length ic).ownBlock ∨ v7.ownBlock = some (((w8).alloc (.cells (bvs (List.replicate z false)).toArray 4)).alloc (.cells #[.slice (some ⟨(w8).heap.size, 0, none⟩) z z] 192)).heap.size := k4
          obtain ⟨s9, c9, rfl⟩ := owns_slice k1
          obtain ⟨⟨z6, zf⟩, TP, CP⟩ := HC7.out.pushO HSI.out z k1 (by rw [HIV.out]; exact k2) (by rw [HIV.out]; exact k4')
          rw [HIV.out] at z6
          have HK9 := Lib.hid (HK7.out.turn TP (by unfold ChkC; omega))
          have HT9 := Lib.hid (HT7.out.trans TP (fun _ h => h))
          have HR9 := Lib.hid (HR7.out.turn TP (by unfold ChkC; omega))
          have HC9 := Lib.hid CP
          clear TP CP k1 k2 k20 k4 k4' hown hown2 hr y6 y6a hFZ HK7 HT7 HR7 HC7 HSI
          refine ⟨by first | exact fun _ _ => z6 | exact fun _ => z6, ?_⟩
          refine wpAnyT_list (ks := [10, 11, 12]) (fun _ _ hx h => hx.cell h) (by kernel_rfl) ?_
          simp only [pickOps, List.flatMap_cons, List.flatMap_nil, List.drop_succ_cons, List.drop_zero, List.take_succ_cons, List.take_zero, List.cons_append, List.nil_append, List.append_nil]
          have z0 := HR9.out.cell 0 _ rfl
          have z1 := HR9.out.cell 1 _ rfl
          have z2 := HR9.out.cell 2 _ rfl
          have f0 := HR9.out.frozen 0
          have f1 := HR9.out.frozen 1
          have f2 := HR9.out.frozen 2
          go_wp2
          refine bodyPost_ret_by (results_tmp_row rfl _ _ _ _ _ _ _ rfl (spot_set HR9.out) Try.underlying140 rfl (by kernel_rfl)) rfl ?_
          exact ⟨⟨_, _, _, rfl⟩, _, vI, vO, HT9.out.late 7 (spot_mods (by have := HRE.out; omega) _ _ _), fun h => absurd h hx0⟩
      · have e : E = ne := by rw [← HEC.out, actorE, HNE.out, if_pos h0, if_pos h0]
        subst e
        have z0 := HR4.out.cell 0 _ rfl
        have z1 := HR4.out.cell 1 _ rfl
        have z2 := HR4.out.cell 2 _ rfl
        have f0 := HR4.out.frozen 0
        have f1 := HR4.out.frozen 1
        have f2 := HR4.out.frozen 2
        go_wp2
        refine bodyPost_ret_by (results_tmp_row rfl _ _ _ _ _ _ _ rfl (spot_set HR4.out) Try.underlying140 rfl (by kernel_rfl)) rfl ?_
        exact ⟨⟨_, _, _, rfl⟩, _, vI, vO, HT4.out.late 7 (spot_mods (by have := HRE.out; omega) _ _ _), fun h => absurd h h0⟩
    · obtain rfl : j = l.length := by omega
      have hfin := HE.out
      rw [List.drop_length, List.take_length] at hfin
      obtain rfl : E = 0 := hfin.symm
      have hC9 := HC.out
      rw [List.take_length] at hC9
      have HC9 := Lib.hid hC9
      clear hfin hC9
      have z0 := HR.out.cell 0 _ rfl
      have z1 := HR.out.cell 1 _ rfl
      have z2 := HR.out.cell 2 _ rfl
      have f0 := HR.out.frozen 0
      have f1 := HR.out.frozen 1
      have f2 := HR.out.frozen 2
      go_wp2
      refine bodyPost_ret_by (results_tmp_row rfl _ _ _ _ _ _ _ rfl (spot_set HR.out) Try.underlying140 rfl (by kernel_rfl)) rfl ?_
      exact ⟨⟨_, _, _, rfl⟩, _, vI, vO, HT.out.late 7 (spot_mods (by have := HRE.out; omega) _ _ _), fun _ => HC9.out.spot HR.out _ _ _⟩
end Go.Proofs.Ytbmbfifempkhgaa
