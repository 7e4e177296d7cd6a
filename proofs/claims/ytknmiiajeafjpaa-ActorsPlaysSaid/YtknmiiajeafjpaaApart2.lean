/- Apart, walked: it answers true. -/
import Derived.Test.YtknmiiajeafjpaaApart
namespace Go.Proofs.Ytknmiiajeafjpaa
open Go.RowKit

theorem outs_open {w : World} {o : Col} {c : Nat} {ov : Value} {xss : List (List Int)} (h : Outs w o c ov xss) (hl : ∀ l ∈ xss, l.length ≤ 17600000000000) :
    ∃ (vs : List Value) (ns : List Nat) (o' : Col), vs.length = xss.length ∧ (∀ j : Nat, ns[j]?.getD 0 ≤ 17600000000000) ∧ Own w o' 1 22 1 ov vs.length vs ∧ Ap1 w o' vs ns 0 0 ∧ ∀ k, k < w.heap.size → o' k = 2 ∨ 10 ≤ o' k → o k = c := by
  obtain ⟨vs, h1, h2, h3, h4, h5⟩ := h
  refine ⟨vs, xss.map List.length, rowCol ov vs, h1, fun j => ?_, ⟨h2.1, fun k hk => by simp [rowCol, hk]⟩, fun j hj => ?_, fun k hk h10 => ?_⟩
  · by_cases hj : j < xss.length
    · simpa [hj] using hl _ (List.getElem_mem hj)
    · simp [show xss.length ≤ j by omega]
  · have hj' : j < xss.length := by omega
    have e : (xss.map List.length)[j]?.getD 0 = (xss[j]?.getD []).length := by simp [hj']
    refine ⟨xss[j]?.getD [], e.symm, fun hlt => absurd hlt (Nat.not_lt_zero _), fun _ => by simp [rowV], ?_⟩
    rw [e]
    exact ⟨(h3 j hj').1, fun b hb => rowCol_row hj hb (h5 j b hj' hb) (fun i j B hij hj => h4 i j B hij (by omega))⟩
  · have h10 : 10 ≤ rowCol ov vs k := by
      rcases h10 with h | h
      · exfalso
        unfold rowCol at h
        repeat' (split at h)
        all_goals omega
      · exact h
    obtain ⟨i, hi, hb⟩ := rowCol_is h10
    exact (h3 i (by omega)).2 k hb

theorem made_nils (n : Nat) : (madeCells (Value.cells (.slice none 0 0)) (n * 1)).toList = List.replicate n (.slice none 0 0) := by
  rw [Nat.mul_one]
  simp [madeCells, Value.cells, Nat.mod_one, List.map_const']


set_option maxRecDepth 100000 in
set_option maxHeartbeats 8000000 in
theorem apart_yes {w : World} {o : Col} {c : Nat} {ov : Value} {xss : List (List Int)} (h : Outs w o c ov xss) (hm : xss.length ≤ 5864062014805) (hl : ∀ l ∈ xss, l.length ≤ 17600000000000) :
    Calls Try.prog 27 #[ov] w fun e w' => e = .returned (.bool true) ∧ Mods (fun k => o k = c) w w' := by
  obtain ⟨vs, ns, o', hvs, hns, OV, A1, hoc⟩ := outs_open h hl
  obtain ⟨i0, hi, hz0, hz1, hz2⟩ := info_parts info_int
  obtain ⟨j0, ji, jz0, jz1, jz2⟩ := info_parts info_ints
  rw [← hvs] at hm
  have HM := Lib.hid hm
  have HNS := Lib.hid hns
  have HOC := Lib.hid hoc
  have hmi : (vs.length : Int) ≤ 5864062014805 := by omega
  clear h hl hm hvs hns hoc
  obtain ⟨w1, hr, hown, hg⟩ := run_make_full (P := Try.prog) w w.heap.size 29 22 j0 _ 1 (by kernel_rfl) ji jz0 jz1 .i64 .i64 vs.length (by rw [jz2]; have := HM.out; omega) (by have := HM.out; unfold maxLen; omega) (Nat.le_refl _)
  obtain ⟨oa, oc, rfl⟩ := OV.slice
  go_enter Try.func27, Try.ntmps27
  go_wp2_with fail
  obtain ⟨L, hLe⟩ : ∃ L, L = w.heap.size := ⟨_, rfl⟩
  have T1 : Turn o' (ext o' w.heap.size 2) (fun _ => False) w w1 := Turn.of_mods o' 2 ((Mods.refl (fun _ => False) w).grown hg (fun k hk _ => by cases hk)) (fun _ _ h => h)
  have OV1 := OV.turn T1 (fun h => h)
  have A11 := A1.turn T1 (fun _ h => h)
  rw [made_nils] at hown
  have L1 : Lo1 w1 (ext o' w.heap.size 2) w.heap.size vs 0 := ⟨List.replicate vs.length (.slice none 0 0), by simp, fun j hj => absurd hj (Nat.not_lt_zero _), owns_base hown (fun _ _ => Nat.zero_le _), fun k hk => ext_new (by rw [← Option.some.inj hk]; exact Nat.le_refl _)⟩
  rw [← hLe] at L1 T1 OV1 A11 ⊢
  have HT1 := Lib.hid T1
  have HL1 := Lib.hid L1
  have HOV1 := Lib.hid OV1
  have HA1 := Lib.hid A11
  clear OV A1 hown hg hr T1 OV1 A11 L1 hLe
  generalize ext o' L 2 = o1 at *
  go_loopw [4, 5] (fun i _ wr => ∃ n : Nat, n ≤ vs.length ∧ i = .int .i64 n ∧ Own wr o1 1 22 1 (.slice oa vs.length oc) vs.length vs ∧ Ap1 wr o1 vs ns n 0 ∧ Lo1 wr o1 L vs n ∧ Turn o1 o1 (fun x => x = 2 ∨ 10 ≤ x) w1 wr) (fun i _ _ => vs.length - (intOf i).toNat)
  case atStart => exact ⟨0, Nat.zero_le _, rfl, HOV1.out, HA1.out, HL1.out, Turn.refl _ _ _⟩
  case round =>
    clear HL1 HOV1 HA1
    obtain ⟨i, hi1, rfl, OV, A1, L1, T⟩ := hrel
    by_cases hlt : i < vs.length
    · have OV0 := OV
      obtain ⟨_, hcp, gA, _, rfl, hcA, _, _⟩ := owns_cell OV.1 (by omega)
      have cA := hcA i (vs[i]?.getD undef) (by simp [hlt])
      have hlti : (i : Int) < vs.length := by omega
      have hcpi : (vs.length : Int) ≤ oc := by omega
      obtain ⟨zs, hz1, _, _, hz4⟩ := A1 i hlt
      obtain ⟨ga, gc, hge⟩ := hz4.slice
      have hnb := HNS.out i
      have HGE := Lib.hid hge
      obtain ⟨n, hn⟩ : ∃ n, ns[i]?.getD 0 = n := ⟨_, rfl⟩
      rw [hn] at HGE hnb
      rw [hge, hn] at cA
      have HNE := Lib.hid hn
      have HOV := Lib.hid OV0
      have HA := Lib.hid A1
      have HL := Lib.hid L1
      have HT := Lib.hid T
      have hnbi : (n : Int) ≤ 17600000000000 := by omega
      clear OV OV0 A1 L1 T hz1 hz4 hge hn hcA
      go_wp2_with fail
      go_loopw [5] (fun kk wq => ∃ k : Nat, k ≤ n ∧ kk = .int .i64 k ∧ Own wq o1 1 22 1 (.slice (some ⟨gA, 0, none⟩) vs.length oc) vs.length vs ∧ Ap1 wq o1 vs ns i k ∧ Lo1 wq o1 L vs i ∧ Turn o1 o1 (fun x => x = 2 ∨ 10 ≤ x) w1 wq) (fun kk _ => n - (intOf kk).toNat)
      case atStart => exact ⟨0, Nat.zero_le _, rfl, HOV.out, HA.out, HL.out, HT.out⟩
      case round =>
        clear cA HOV HA HL HT
        obtain ⟨k, hk, rfl, OV, A1, L1, T⟩ := hrel
        obtain ⟨_, _, gA', _, e, hcA, _, _⟩ := owns_cell OV.1 (by omega)
        cases e
        have cA := hcA i (vs[i]?.getD undef) (by simp [hlt])
        rw [HGE.out] at cA
        obtain ⟨ls, hls, _, hLo⟩ := L1
        obtain ⟨_, _, gL, _, e, hcL, hfL, _⟩ := owns_cell hLo.1 (by omega)
        cases e
        have cL := hcL i (ls[i]?.getD undef) (by simp [show i < ls.length by omega])
        have fL := hfL i
        by_cases hkn : k < n
        · obtain ⟨zs, hz1, _, _, hz4⟩ := A1 i hlt
          rw [HGE.out, HNE.out] at hz4
          rw [HNE.out] at hz1
          obtain ⟨_, hgc, g, _, rfl, hcg, hfg, _⟩ := owns_cell hz4.1 (by rw [ivs_len]; omega)
          have cg := hcg k (iv (zs[k]?.getD 0)) (by simp [show k < zs.length by omega])
          have fg := hfg k
          have hkni : (k : Int) < n := by omega
          have hgci : (n : Int) ≤ gc := by omega
          have HOV := Lib.hid OV
          have HA := Lib.hid A1
          have HL := Lib.hid (show Lo1 wr o1 L vs i from ⟨ls, hls, ‹_›, hLo⟩)
          have HT := Lib.hid T
          clear OV A1 T hz4 hz1 hcg hfg hcA hcL hfL hLo
          generalize zs[k]?.getD 0 = z at *
          go_wp2
          go_roundw
          case rel =>
            obtain ⟨S1, S2⟩ := HA.out.step hlt HGE.out HNE.out hkn
            exact ⟨k + 1, by omega, by go_num, HOV.out.turn S2 (by show ¬ 1 = 10 + i; omega), S1, HL.out.turn S2 (by show ¬ 2 = 10 + i; omega), HT.out.trans S2 (fun x hx => .inr (by omega))⟩
          case measure => simp [intOf]; omega
        · obtain rfl : k = n := by omega
          have hkni : ¬ (k : Int) < k := by omega
          have HOV := Lib.hid OV
          have HA := Lib.hid (A1.next HNE.out)
          have HL := Lib.hid (Lo1.step (show Lo1 wr o1 L vs i from ⟨ls, hls, ‹_›, hLo⟩) hlt)
          have HT := Lib.hid T
          clear OV A1 T hcA hcL hfL hLo
          generalize ls[i]?.getD undef = lv at *
          go_wp2
          go_roundw
          case rel =>
            obtain ⟨S1, S2⟩ := HL.out
            rw [HGE.out] at S1 S2
            exact ⟨i + 1, by omega, by go_num, HOV.out.turn S2 (by decide), HA.out.turn S2 (fun j h => by omega), S1, HT.out.trans S2 (fun x hx => .inl hx)⟩
          case measure => simp [intOf]; omega
    · obtain rfl : i = vs.length := by omega
      have HOV := Lib.hid OV
      have HAP := Lib.hid (A1.done L1)
      have HT := Lib.hid T
      clear OV A1 L1 T
      go_wp2_with fail
      go_loopw [6, 7] (fun i _ wr => ∃ n : Nat, n ≤ vs.length ∧ i = .int .i64 n ∧ ∃ o2, Own wr o2 1 22 1 (.slice oa vs.length oc) vs.length vs ∧ Ap2 wr o2 L vs ns n 0 ∧ Turn o1 o2 (fun x => x = 2 ∨ 10 ≤ x) w1 wr) (fun i _ _ => vs.length - (intOf i).toNat)
      case atStart => exact ⟨0, Nat.zero_le _, rfl, o1, HOV.out, HAP.out, HT.out⟩
      case round =>
        clear HOV HAP HT
        obtain ⟨i, hi1, rfl, o2, OV, A2, T⟩ := hrel
        by_cases hlt : i < vs.length
        · have hlti : (i : Int) < vs.length := by omega
          have HOV := Lib.hid OV
          have HA := Lib.hid A2
          have HT := Lib.hid T
          clear OV A2 T
          go_wp2_with fail
          go_loopw [7] (fun kk wq => ∃ k : Nat, k ≤ 16 ∧ kk = .int .i64 k ∧ ∃ o2, Own wq o2 1 22 1 (.slice oa vs.length oc) vs.length vs ∧ Ap2 wq o2 L vs ns i k ∧ Turn o1 o2 (fun x => x = 2 ∨ 10 ≤ x) w1 wq) (fun kk _ => 16 - (intOf kk).toNat)
          case atStart => exact ⟨0, Nat.zero_le _, rfl, o2, HOV.out, HA.out, HT.out⟩
          case round =>
            clear HOV HA HT
            clear o2
            obtain ⟨k, hk, rfl, o2, OV, A2, T⟩ := hrel
            by_cases hk16 : k < 16
            · have hki : (k : Int) < 16 := by omega
              obtain ⟨h1, ls, h2, h3, h4⟩ := A2
              obtain ⟨_, _, gL, _, e, hcL, hfL, _⟩ := owns_cell h3.1 (by omega)
              cases e
              have cL := hcL i (ls[i]?.getD undef) (by simp [show i < ls.length by omega])
              have fL := hfL i
              have hrow := (h4 i hlt).1
              rw [show grew i k i = k by simp [grew]] at hrow
              obtain ⟨sl, cl, hle⟩ := owns_slice hrow
              rw [hle] at hrow cL
              have hnb := HNS.out i
              have HST := Lib.hid (fun (w2 : World) (v' : Value) (tmp : Obj) => Ap2.step (w := wr) (w2 := w2) (v' := v') (tmp := tmp) h1 h2 h3 h4 hlt)
              have HLE := Lib.hid hle
              have HOV := Lib.hid OV
              have HT := Lib.hid T
              clear h1 h3 h4 OV T hcL hfL hle
              obtain ⟨n, hn⟩ : ∃ n, ns[i]?.getD 0 = n := ⟨_, rfl⟩
              rw [hn] at hrow cL hnb HST HLE
              clear hn
              go_wp2_with (at_builtin; refine stop_here ?_)
              refine go_on ?_
              rw [HLE.out] at HST
              refine wpList_app2 rfl _ _ 22 rfl 0 3 i0 _ 1 8 Try.underlying22 hi hz0 hz1 hz2 rfl (.slice sl (n + k) cl) (n + k) _ rfl (hrow.alloc (.cells #[.int .i64 (-(i : Int) * 1000003 - k - 1)] 3)) (some ⟨wr.heap.size, 0, none⟩) 1 1 [.int .i64 (-(i : Int) * 1000003 - k - 1)] rfl rfl (fun h => by cases h) (news_alloc wr [.int .i64 (-(i : Int) * 1000003 - k - 1)] 3) (by simp [Value.oneCell']) (by unfold maxLen; omega) (grow_ok (by omega)) (Nat.zero_le _) ?_
              intro v' w2 g1 g20 _ g4
              have g2 : (wr.alloc (.cells #[.int .i64 (-(i : Int) * 1000003 - k - 1)] 3)).grownBy w2 (Value.slice sl (n + k) cl).ownBlock := ⟨g20.os, g20.tape, g20.output, g20.size, g20.block⟩
              obtain ⟨S1, S2, S3⟩ := HST.out w2 v' _ g1 g2 g4
              have HS2 := Lib.hid S2
              have HS3 := Lib.hid S3
              obtain ⟨_, _, gL, _, e, hcL, hfL, _⟩ := owns_cell S1.1 (by omega)
              cases e
              have cL2 := hcL i (ls[i]?.getD undef) (by simp [show i < ls.length by omega])
              rw [HLE.out] at cL2
              have fL2 := hfL i
              obtain ⟨s', c', rfl⟩ := owns_slice g1
              clear g1 g20 g2 g4 S1 S2 S3 hcL hfL hrow HST cL fL
              go_wp2
              go_roundw
              case rel => exact ⟨k + 1, by omega, by go_num, _, HOV.out.turn HS3.out (by intro h; omega), HS2.out, HT.out.trans HS3.out (fun x hx => by omega)⟩
              case measure => simp [intOf]; omega
            · obtain rfl : k = 16 := by omega
              have HOV := Lib.hid OV
              have HA := Lib.hid A2.next
              have HT := Lib.hid T
              clear OV A2 T
              go_wp2
              go_roundw
              case rel => exact ⟨i + 1, by omega, by go_num, o2, HOV.out, HA.out, HT.out⟩
              case measure => simp [intOf]; omega
        · obtain rfl : i = vs.length := by omega
          have hmods : Mods (fun k => o k = c) w wr := HT1.out.mods.trans T.mods (fun _ _ h => h.elim) (fun k hk h => HOC.out k hk (by rw [← HT1.out.same k hk]; exact h))
          have HMO := Lib.hid hmods
          have HOV := Lib.hid OV
          have HA := Lib.hid A2
          clear hmods OV A2 T HT1
          obtain ⟨W, hW⟩ : ∃ W, W = wr := ⟨_, rfl⟩
          rw [← hW] at HMO HOV HA ⊢
          clear hW
          go_wp2_with fail
          go_loopw [8, 9, 10] (fun i _ _ wq => ∃ n : Nat, n ≤ vs.length ∧ i = .int .i64 n ∧ ∃ m, wq = W.drewN m) (fun i _ _ _ => vs.length - (intOf i).toNat)
          case atStart => exact ⟨0, Nat.zero_le _, rfl, 0, rfl⟩
          case round =>
            obtain ⟨i, hi1, rfl, m, rfl⟩ := hrel
            by_cases hlt : i < vs.length
            · obtain ⟨_, hcp, gA, _, rfl, hcA, _, _⟩ := owns_cell HOV.out.1 (by omega)
              have cA := hcA i (vs[i]?.getD undef) (by simp [hlt])
              have hlti : (i : Int) < vs.length := by omega
              have hcpi : (vs.length : Int) ≤ oc := by omega
              obtain ⟨h1, ls, h2, h3, h4⟩ := HA.out
              obtain ⟨_, _, gL, _, e, hcL, hfL, _⟩ := owns_cell h3.1 (by omega)
              cases e
              have cL := hcL i (ls[i]?.getD undef) (by simp [show i < ls.length by omega])
              have hrow := (h4 i hlt).1
              rw [show grew vs.length 0 i = 16 by simp [grew, hlt]] at hrow
              obtain ⟨sl, cl, hle⟩ := owns_slice hrow
              rw [hle] at hrow cL
              obtain ⟨ga, gc, hve, hgc, hcg⟩ := h1 i hlt
              rw [rowV_len] at hve hgc hcg
              rw [hve] at cA
              have hnb := HNS.out i
              obtain ⟨n, hn⟩ : ∃ n, ns[i]?.getD 0 = n := ⟨_, rfl⟩
              rw [hn] at hrow cL hnb cA hgc hcg
              obtain ⟨_, hcl, gl, _, rfl, hcells, _⟩ := owns_cell hrow (by simp [rowV_len, rowM_len])
              have hV : ∀ k, k < n → W.cell? ⟨gl, k, none⟩ = some (.int .i64 ((i : Int) * 1000003 + k)) := fun k hk => hcells k _ (by
                rw [List.getElem?_map, List.getElem?_append_left (by rw [rowV_len]; exact hk), rowV_get i n k hk]; rfl)
              have hM : ∀ k, k < 16 → W.cell? ⟨gl, n + k, none⟩ = some (.int .i64 (-(i : Int) * 1000003 - k - 1)) := fun k hk => hcells (n + k) _ (by
                rw [List.getElem?_map, List.getElem?_append_right (by rw [rowV_len]; omega), rowV_len, Nat.add_sub_cancel_left, rowM_get i 16 k hk]; rfl)
              have HV := Lib.hid hV
              have HMM := Lib.hid hM
              have HCG := Lib.hid hcg
              have hnbi : (n : Int) ≤ 17600000000000 := by omega
              have hcli : (n : Int) + 16 ≤ cl := by omega
              have hgci : (n : Int) ≤ gc := by omega
              clear hV hM hcg h1 h3 h4 hcA hcL hfL hcells hrow hle hve hn
              go_wp2_with fail
              go_loopw [9] (fun kk wq => ∃ k : Nat, k ≤ n ∧ kk = .int .i64 k ∧ ∃ m, wq = W.drewN m) (fun kk _ => n - (intOf kk).toNat)
              case atStart => exact ⟨0, Nat.zero_le _, rfl, _, rfl⟩
              case round =>
                obtain ⟨k, hk, rfl, m, rfl⟩ := hrel
                by_cases hkn : k < n
                · obtain ⟨g, rfl, _, _, hcc⟩ := HCG.out (by omega)
                  have c1 := hcc k hkn
                  rw [show (rowV i n)[k]?.getD 0 = (i : Int) * 1000003 + k by rw [rowV_get i n k hkn]; rfl] at c1
                  have c2 := HV.out k hkn
                  have hkni : (k : Int) < n := by omega
                  have hkn2 : (k : Int) < (n : Int) + 16 := by omega
                  clear hcc
                  go_wp2
                  go_roundw
                  case rel => exact ⟨k + 1, by omega, by go_num, _, rfl⟩
                  case measure => simp [intOf]; omega
                · obtain rfl : k = n := by omega
                  have hkni : ¬ (k : Int) < k := by omega
                  go_wp2_with fail
                  go_loopw [10] (fun kk wq => ∃ j : Nat, j ≤ 16 ∧ kk = .int .i64 j ∧ ∃ m, wq = W.drewN m) (fun kk _ => 16 - (intOf kk).toNat)
                  case atStart => exact ⟨0, by omega, rfl, _, rfl⟩
                  case round =>
                    obtain ⟨j, hj, rfl, m, rfl⟩ := hrel
                    by_cases hj16 : j < 16
                    · have c3 := HMM.out j hj16
                      have hki : (j : Int) < 16 := by omega
                      have hki2 : (k : Int) + j < (k : Int) + 16 := by omega
                      have hki3 : (0 : Int) ≤ (k : Int) + j := by omega
                      go_wp2
                      go_quiet (fail)
                      go_wp2
                      go_roundw
                      case rel => exact ⟨j + 1, by omega, by go_num, _, rfl⟩
                      case measure => simp [intOf]; omega
                    · obtain rfl : j = 16 := by omega
                      go_wp2
                      go_roundw
                      case rel => exact ⟨i + 1, by omega, by go_num, _, rfl⟩
                      case measure => simp [intOf]; omega
            · obtain rfl : i = vs.length := by omega
              go_wp2
              go_ret
              exact ⟨rfl, mods_dr HMO.out⟩
end Go.Proofs.Ytknmiiajeafjpaa
