/- The checker's open. -/
import Derived.Test.YtbmbfifempkhgaaGPorts
namespace Go.Proofs.Ytbmbfifempkhgaa
open Go.RowKit


/-- the rows up to i are full -/
def FullTo (ins outs : List (List Bool)) (i : Nat) : Prop := ∀ r, r < i → (ins[r]?.getD []).all id = true ∧ (outs[r]?.getD []).all id = true
theorem full_all {ins outs : List (List Bool)} (hl : outs.length = ins.length) (h : FullTo ins outs ins.length) : openE ins outs = 0 := by
  have h1 : (ins.all fun s => s.all id) = true := by
    rw [List.all_eq_true]
    intro x hx
    obtain ⟨r, hr, rfl⟩ := List.mem_iff_getElem.1 hx
    have := (h r hr).1
    rwa [List.getElem?_eq_getElem hr, Option.getD_some] at this
  have h2 : (outs.all fun s => s.all id) = true := by
    rw [List.all_eq_true]
    intro x hx
    obtain ⟨r, hr, rfl⟩ := List.mem_iff_getElem.1 hx
    have := (h r (by omega)).2
    rwa [List.getElem?_eq_getElem hr, Option.getD_some] at this
  unfold openE
  rw [h1, h2]; rfl
theorem open_ins {ins outs : List (List Bool)} {i m : Nat} (hi : i < ins.length) (hm : m < (ins[i]?.getD []).length) (h : (ins[i]?.getD [])[m]?.getD false = false) : openE ins outs = 87 := by
  have h1 : (ins.all fun s => s.all id) = false := by
    rw [List.all_eq_false]
    rw [List.getElem?_eq_getElem hi, Option.getD_some] at hm h
    refine ⟨ins[i], List.getElem_mem hi, ?_⟩
    rw [List.getElem?_eq_getElem hm, Option.getD_some] at h
    simp only [Bool.not_eq_true, List.all_eq_false]
    exact ⟨_, List.getElem_mem hm, by simp [h]⟩
  unfold openE
  rw [h1]; rfl
theorem open_outs {ins outs : List (List Bool)} {i m : Nat} (hi : i < outs.length) (hm : m < (outs[i]?.getD []).length) (h : (outs[i]?.getD [])[m]?.getD false = false) : openE ins outs = 87 := by
  have h1 : (outs.all fun s => s.all id) = false := by
    rw [List.all_eq_false]
    rw [List.getElem?_eq_getElem hi, Option.getD_some] at hm h
    refine ⟨outs[i], List.getElem_mem hi, ?_⟩
    rw [List.getElem?_eq_getElem hm, Option.getD_some] at h
    simp only [Bool.not_eq_true, List.all_eq_false]
    exact ⟨_, List.getElem_mem hm, by simp [h]⟩
  unfold openE
  rw [h1, Bool.and_false]; rfl
theorem all_to {l : List Bool} (h : ∀ m, m < l.length → l[m]?.getD false = true) : l.all id = true := by
  rw [List.all_eq_true]
  intro x hx
  obtain ⟨r, hr, rfl⟩ := List.mem_iff_getElem.1 hx
  have := h r hr
  rwa [List.getElem?_eq_getElem hr, Option.getD_some] at this
theorem bvs_get' {l : List Bool} {k : Nat} (h : k < l.length) : (bvs l).toArray[k]? = some (.bool (l[k]?.getD false)) := by simp [bvs, h]

set_option maxRecDepth 100000 in
set_option maxHeartbeats 2000000 in
theorem gopen_any (w : World) (o : Col) (C B : Nat) (X : ChkV) (k : Chk) (ao : Option Addr) (n cap : Nat) (hva : X.va = .slice ao n cap) (hi : k.ins.length = n) (ho : k.outs.length = n) (hn : n ≤ 1000000) (hrl : ∀ r : Nat, (k.ins[r]?.getD []).length ≤ 1000000 ∧ (k.outs[r]?.getD []).length ≤ 1000000) (h : ChkAt w o C B X k) :
    Calls Try.prog 100 #[.pointer (some ⟨C, 0, none⟩)] w (ChkRet w o C B X (openE k.ins k.outs) k) := by
  obtain ⟨E, hE⟩ : ∃ E, openE k.ins k.outs = E := ⟨_, rfl⟩
  rw [hE]
  have HE := Lib.hid hE
  have HI := Lib.hid hi
  have HO := Lib.hid ho
  have HN := Lib.hid hn
  have HRL := Lib.hid hrl
  have hbR := below_alloc w (.cells #[.int .u8 0, .int .i64 0, .int .i64 0] 140)
  have HT0 := Lib.hid ((Turn.of_below o 7 hbR).mono (D := ChkC) (fun _ h => h.elim))
  have hC0 := h.below 7 hbR
  have q1 := hC0.cells.2.1
  rw [hva] at q1
  have HC0 := Lib.hid hC0
  have HR0 := Lib.hid (spot_new w o 7)
  clear hE hva hi ho hn hrl h hbR hC0
  go_enter Try.func100, Try.ntmps100
  go_wp2_with fail
  clear q1
  obtain ⟨R, hR⟩ : ∃ R, w.heap.size = R := ⟨_, rfl⟩
  have HRE := Lib.hid hR
  rw [hR] at HR0 HT0 HC0 ⊢
  clear hR
  generalize w.alloc (.cells #[.int .u8 0, .int .i64 0, .int .i64 0] 140) = W at *
  generalize ext o R 7 = q at *
  go_loopw [15] (fun i wr => ∃ j : Nat, j ≤ n ∧ i = .int .i64 j ∧ Below W.heap.size W wr ∧ FullTo k.ins k.outs j) (fun i _ => n - (intOf i).toNat)
  case atStart => exact ⟨0, Nat.zero_le _, rfl, Below.refl _ _, fun r hr => absurd hr (by omega)⟩
  case round =>
    obtain ⟨j, hj, rfl, hb, hfull⟩ := hrel
    have HB := Lib.hid hb
    have HF := Lib.hid hfull
    clear hb hfull
    by_cases hlt : j < n
    · have hlti : (j : Int) < n := by omega
      have hC := HC0.out.below 9 HB.out
      obtain ⟨gI, hSI⟩ := hC.ins
      obtain ⟨gO, hSO⟩ := hC.outs
      obtain ⟨ia, ic, hIv⟩ := hSI.own.slice
      obtain ⟨oa, oc, hOv⟩ := hSO.own.slice
      have y6 := hC.cells.2.2.2.2.2.2.1
      have y7 := hC.cells.2.2.2.2.2.2.2
      rw [hIv] at y6 hSI
      rw [hOv] at y7 hSO
      obtain ⟨_, hci, g1, rfl, r1⟩ := hSI.row (a := j) (by have := HI.out; omega)
      obtain ⟨_, hco, g2, rfl, r2⟩ := hSO.row (a := j) (by have := HO.out; omega)
      have b1 := hSI.rows j (by have := HI.out; omega)
      have b2 := hSO.rows j (by have := HO.out; omega)
      obtain ⟨ri, hri⟩ : ∃ x, k.ins[j]?.getD [] = x := ⟨_, rfl⟩
      obtain ⟨ro, hro⟩ : ∃ x, k.outs[j]?.getD [] = x := ⟨_, rfl⟩
      have hbi : ri.length ≤ 1000000 := hri ▸ (HRL.out j).1
      have hbo : ro.length ≤ 1000000 := hro ▸ (HRL.out j).2
      rw [hri] at r1 b1
      rw [hro] at r2 b2
      generalize gI[j]?.getD 0 = G1 at *
      generalize gO[j]?.getD 0 = G2 at *
      have HRI := Lib.hid hri
      have HRO := Lib.hid hro
      have HB1 := Lib.hid b1
      have HB2 := Lib.hid b2
      have hIl := HI.out
      have hOl := HO.out
      rw [hIl] at y6 hci
      rw [hOl] at y7 hco
      have hcii : (n : Int) ≤ ic := by omega
      have hcoi : (n : Int) ≤ oc := by omega
      clear hC hSI hSO hIv hOv hri hro b1 b2 hIl hOl
      go_wp2_with fail
      refine wp_region_lex (fun w' => w'.cell? ⟨C, 6, none⟩ = some (.slice (some ⟨g1, 0, none⟩) n ic) ∧ w'.cell? ⟨C, 7, none⟩ = some (.slice (some ⟨g2, 0, none⟩) n oc) ∧ w'.cell? ⟨g1, j, none⟩ = some (.slice (some ⟨G1, 0, none⟩) ri.length ri.length) ∧ w'.cell? ⟨g2, j, none⟩ = some (.slice (some ⟨G2, 0, none⟩) ro.length ro.length)) [0, 1, 2, 3, 4, 5, 6, 7, 8, 9, 10, 11, 12, 13, 16] [14, 15] (by kernel_rfl) (by kernel_rfl) rfl (fun _ _ hx h => ⟨hx.cell h.1, hx.cell h.2.1, hx.cell h.2.2.1, hx.cell h.2.2.2⟩) ⟨y6, y7, r1, r2⟩ ?_
      intro Q' hQ'
      simp only [pickOps, List.flatMap_cons, List.flatMap_nil, List.drop_succ_cons, List.drop_zero, List.take_succ_cons, List.take_zero, List.cons_append, List.nil_append, List.append_nil]
      repeat (first
        | (refine wpReads_skip (by rfl) ?_; (try simp only [Act.put, List.setIfInBounds_toArray, List.set_cons_zero, List.set_cons_succ]))
        | (refine wpReads_cons ?_ (by rfl) (by rfl) ?_ ?_; rotate_left; (intro wz hz; (try dsimp only at hz); go_simp; try with_reducible rfl); (try simp only [Act.put, List.setIfInBounds_toArray, List.set_cons_zero, List.set_cons_succ]))
        | (refine wpReads_any ?_ (by rfl) ?_ ?_; rotate_left; (intro wz; go_simp; try with_reducible rfl); (try simp only [Act.put, List.setIfInBounds_toArray, List.set_cons_zero, List.set_cons_succ])))
      refine wpReads_nil ?_
      have hbT := below_alloc wr (.cells #[.slice (some ⟨G1, 0, none⟩) ri.length ri.length, .slice (some ⟨G2, 0, none⟩) ro.length ro.length] 192)
      have hT := heap_alloc_new wr (.cells #[.slice (some ⟨G1, 0, none⟩) ri.length ri.length, .slice (some ⟨G2, 0, none⟩) ro.length ro.length] 192)
      have t0 := cells_row _ _ hT 0 _ rfl
      have t1 := cells_row _ _ hT 1 _ rfl
      have HBT := Lib.hid (HB.out.trans (hbT.mono HB.out.size))
      have HP1 := Lib.hid (HB1.out.turn (Turn.of_below _ 9 hbT) (fun h => h))
      have HP2 := Lib.hid (HB2.out.turn (Turn.of_below _ 9 hbT) (fun h => h))
      clear hbT hT y6 y7 r1 r2 HB1 HB2 HB
      go_wp2_with fail
      obtain ⟨W2, hW2⟩ : ∃ W2, (wr.alloc (.cells #[.slice (some ⟨G1, 0, none⟩) ri.length ri.length, .slice (some ⟨G2, 0, none⟩) ro.length ro.length] 192)).drew = W2 := ⟨_, rfl⟩
      have t0' : W2.cell? ⟨wr.heap.size, 0, none⟩ = some (.slice (some ⟨G1, 0, none⟩) ri.length ri.length) := by rw [← hW2]; exact t0
      have t1' : W2.cell? ⟨wr.heap.size, 1, none⟩ = some (.slice (some ⟨G2, 0, none⟩) ro.length ro.length) := by rw [← hW2]; exact t1
      have HB2' : Hid (Below W.heap.size W W2) := Lib.hid (by rw [← hW2]; exact below_dr (n := 1) HBT.out)
      have HQ1 : Hid (∀ m, m < ri.length → W2.cell? ⟨G1, m, none⟩ = some (.bool (ri[m]?.getD false))) := Lib.hid (fun m hm => by rw [← hW2]; exact HP1.out.cell m _ (bvs_get' hm))
      have HQ2 : Hid (∀ m, m < ro.length → W2.cell? ⟨G2, m, none⟩ = some (.bool (ro[m]?.getD false))) := Lib.hid (fun m hm => by rw [← hW2]; exact HP2.out.cell m _ (bvs_get' hm))
      rw [hW2]
      clear t0 t1 HBT HP1 HP2 hW2
      generalize wr.heap.size = T at *
      go_loopw [34] (fun jv wq => ∃ m : Nat, m ≤ 2 ∧ jv = .int .i64 m ∧ wq = W2 ∧ (1 ≤ m → ri.all id = true) ∧ (2 ≤ m → ro.all id = true)) (fun jv _ => 2 - (intOf jv).toNat)
      case atStart => exact ⟨0, by omega, rfl, rfl, fun h => absurd h (by omega), fun h => absurd h (by omega)⟩
      case round =>
        obtain ⟨m, hm, rfl, hw, hm1, hm2⟩ := hrel
        subst hw
        have HM1 := Lib.hid hm1
        have HM2 := Lib.hid hm2
        clear hm1 hm2
        by_cases h0 : m = 0
        · subst h0
          go_wp2_with fail
          go_loopw [40] (fun pv wq => ∃ p : Nat, p ≤ ri.length ∧ pv = .int .i64 p ∧ wq = wr ∧ ∀ x, x < p → ri[x]?.getD false = true) (fun pv _ => ri.length - (intOf pv).toNat)
          case atStart => exact ⟨0, Nat.zero_le _, rfl, rfl, fun x hx => absurd hx (by omega)⟩
          case round =>
            obtain ⟨p, hp, rfl, hw2, hall⟩ := hrel
            subst hw2
            have HAll := Lib.hid hall
            clear hall
            by_cases hpl : p < ri.length
            · have hpi : (p : Int) < ri.length := by omega
              have hq := HQ1.out p hpl
              obtain ⟨bb, hpf⟩ : ∃ bb, ri[p]?.getD false = bb := ⟨_, rfl⟩
              rw [hpf] at hq
              cases bb with
              | false =>
                have e : E = 87 := by rw [← HE.out]; exact open_ins (i := j) (by have := HI.out; omega) (by rw [HRI.out]; exact hpl) (by rw [HRI.out]; exact hpf)
                subst e
                have hBB := HB2'.out
                have HR := Lib.hid (HR0.out.turn (Turn.of_below q 9 hBB) (fun h => h))
                have HT := Lib.hid (HT0.out.trans ((Turn.of_below q 9 hBB).mono (D := ChkC) (fun _ h => h.elim)) (fun _ h => h))
                clear hBB
                have z0 := HR.out.cell 0 _ rfl
                have z1 := HR.out.cell 1 _ rfl
                have z2 := HR.out.cell 2 _ rfl
                have f0 := HR.out.frozen 0
                have f1 := HR.out.frozen 1
                have f2 := HR.out.frozen 2
                go_wp2
                refine bodyPost_ret_by (results_tmp_row rfl _ _ _ _ _ _ _ rfl (spot_set HR.out) Try.underlying140 rfl (by kernel_rfl)) rfl ?_
                exact ⟨⟨_, _, _, rfl⟩, _, HT.out.late 7 (spot_mods (by have := HRE.out; omega) _ _ _), fun h => by cases h⟩
              | true =>
                have HAll2 : Hid (∀ x, x < p + 1 → ri[x]?.getD false = true) := Lib.hid (fun x hx => by
                  by_cases e : x = p
                  · rw [e]; exact hpf
                  · exact HAll.out x (by omega))
                clear hpf
                go_wp2
                go_roundw
                case rel => exact ⟨p + 1, hpl, by first | rfl | go_num, by first | rfl | trivial, HAll2.out⟩
                case measure => first | (simp [intOf]; omega) | (rw [IntWalk.wrap64_in _ (by omega)]; simp [intOf]; omega)
            · obtain rfl : p = ri.length := by omega
              go_wp2
              go_roundw
              case rel => exact ⟨1, by omega, by first | rfl | go_num, by first | rfl | trivial, fun _ => all_to (HAll.out), fun h => absurd h (by omega)⟩
              case measure => simp [intOf]
        · by_cases h1 : m = 1
          · subst h1
            go_wp2_with fail
            go_loopw [40] (fun pv wq => ∃ p : Nat, p ≤ ro.length ∧ pv = .int .i64 p ∧ wq = wr ∧ ∀ x, x < p → ro[x]?.getD false = true) (fun pv _ => ro.length - (intOf pv).toNat)
            case atStart => exact ⟨0, Nat.zero_le _, rfl, rfl, fun x hx => absurd hx (by omega)⟩
            case round =>
              obtain ⟨p, hp, rfl, hw2, hall⟩ := hrel
              subst hw2
              have HAll := Lib.hid hall
              clear hall
              by_cases hpl : p < ro.length
              · have hpi : (p : Int) < ro.length := by omega
                have hq := HQ2.out p hpl
                obtain ⟨bb, hpf⟩ : ∃ bb, ro[p]?.getD false = bb := ⟨_, rfl⟩
                rw [hpf] at hq
                cases bb with
                | false =>
                  have e : E = 87 := by rw [← HE.out]; exact open_outs (i := j) (by have := HO.out; omega) (by rw [HRO.out]; exact hpl) (by rw [HRO.out]; exact hpf)
                  subst e
                  have hBB := HB2'.out
                  have HR := Lib.hid (HR0.out.turn (Turn.of_below q 9 hBB) (fun h => h))
                  have HT := Lib.hid (HT0.out.trans ((Turn.of_below q 9 hBB).mono (D := ChkC) (fun _ h => h.elim)) (fun _ h => h))
                  clear hBB
                  have z0 := HR.out.cell 0 _ rfl
                  have z1 := HR.out.cell 1 _ rfl
                  have z2 := HR.out.cell 2 _ rfl
                  have f0 := HR.out.frozen 0
                  have f1 := HR.out.frozen 1
                  have f2 := HR.out.frozen 2
                  go_wp2
                  refine bodyPost_ret_by (results_tmp_row rfl _ _ _ _ _ _ _ rfl (spot_set HR.out) Try.underlying140 rfl (by kernel_rfl)) rfl ?_
                  exact ⟨⟨_, _, _, rfl⟩, _, HT.out.late 7 (spot_mods (by have := HRE.out; omega) _ _ _), fun h => by cases h⟩
                | true =>
                  have HAll2 : Hid (∀ x, x < p + 1 → ro[x]?.getD false = true) := Lib.hid (fun x hx => by
                    by_cases e : x = p
                    · rw [e]; exact hpf
                    · exact HAll.out x (by omega))
                  clear hpf
                  go_wp2
                  go_roundw
                  case rel => exact ⟨p + 1, hpl, by first | rfl | go_num, by first | rfl | trivial, HAll2.out⟩
                  case measure => first | (simp [intOf]; omega) | (rw [IntWalk.wrap64_in _ (by omega)]; simp [intOf]; omega)
              · obtain rfl : p = ro.length := by omega
                go_wp2
                go_roundw
                case rel => exact ⟨2, by omega, by first | rfl | go_num, by first | rfl | trivial, fun _ => HM1.out (Nat.le_refl _), fun _ => all_to (HAll.out)⟩
                case measure => simp [intOf]
          · obtain rfl : m = 2 := by omega
            have HFn : Hid (FullTo k.ins k.outs (j + 1)) := Lib.hid (fun r hr => by
              by_cases e : r = j
              · subst e; rw [HRI.out, HRO.out]; exact ⟨HM1.out (by omega), HM2.out (by omega)⟩
              · exact HF.out r (by omega))
            have hnn := HN.out
            go_wp2
            go_roundw
            case rel => exact ⟨j + 1, hlt, by go_num, HB2'.out, HFn.out⟩
            case measure => simp [intOf]; omega
    · obtain rfl : j = n := by omega
      have e : E = 0 := by rw [← HE.out]; exact full_all (HO.out.trans HI.out.symm) (HI.out.symm ▸ HF.out)
      subst e
      have HR := Lib.hid (HR0.out.turn (Turn.of_below q 9 HB.out) (fun h => h))
      have HT := Lib.hid (HT0.out.trans ((Turn.of_below q 9 HB.out).mono (D := ChkC) (fun _ h => h.elim)) (fun _ h => h))
      have HC9 := Lib.hid (HC0.out.below 9 HB.out)
      have z0 := HR.out.cell 0 _ rfl
      have z1 := HR.out.cell 1 _ rfl
      have z2 := HR.out.cell 2 _ rfl
      have f0 := HR.out.frozen 0
      have f1 := HR.out.frozen 1
      have f2 := HR.out.frozen 2
      go_wp2
      refine bodyPost_ret_by (results_tmp_row rfl _ _ _ _ _ _ _ rfl (spot_set HR.out) Try.underlying140 rfl (by kernel_rfl)) rfl ?_
      exact ⟨⟨_, _, _, rfl⟩, _, HT.out.late 7 (spot_mods (by have := HRE.out; omega) _ _ _), fun _ => HC9.out.spot HR.out _ _ _⟩
end Go.Proofs.Ytbmbfifempkhgaa
