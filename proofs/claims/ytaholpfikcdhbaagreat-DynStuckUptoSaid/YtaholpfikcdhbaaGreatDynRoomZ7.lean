/- The checker's open. -/
import Derived.Test.YtaholpfikcdhbaaGreatDynRoomZ6
import Derived.Carry
import Derived.Test.YtaholpfikcdhbaaGreatDynRoomZ1
import Derived.Test.YtaholpfikcdhbaaGreatDynRoomZ4
import Derived.Test.YtaholpfikcdhbaaGreatDynRoomZ5
import Derived.Deep.CutBlock
import Derived.Deep.LoopGhost
namespace Go.Proofs.YtaholpfikcdhbaaGreat
open Go.RowKit
def FullTo (ins outs : List (List Bool)) (i : Nat) : Prop := ∀ r, r < i → (ins[r]?.getD []).all id = true ∧ (outs[r]?.getD []).all id = true
theorem full_all {ins outs : List (List Bool)} (hl : outs.length = ins.length) (h : FullTo ins outs ins.length) : openE ins outs = 0 := by
 have h1 : (ins.all fun s => s.all id) = true := by
  rw [List.all_eq_true]
  intro x hx
  obtain ⟨r, hr, rfl⟩ := List.mem_iff_getElem.1 hx
  have := (h r hr).1
  rwa [List.getElem?_eq_getElem hr, Option.getD_some] at this
 have h2 : (outs.all fun s => s.all id) = true := by
  rw [List.all_eq_true]
  intro x hx
  obtain ⟨r, hr, rfl⟩ := List.mem_iff_getElem.1 hx
  have := (h r (by omega)).2
  rwa [List.getElem?_eq_getElem hr, Option.getD_some] at this
 unfold openE
 rw [h1, h2]; rfl
theorem open_ins {ins outs : List (List Bool)} {i m : Nat} (hi : i < ins.length) (hm : m < (ins[i]?.getD []).length) (h : (ins[i]?.getD [])[m]?.getD false = false) : openE ins outs = 87 := by
 have h1 : (ins.all fun s => s.all id) = false := by
  rw [List.all_eq_false]
  rw [List.getElem?_eq_getElem hi, Option.getD_some] at hm h
  refine ⟨ins[i], List.getElem_mem hi, ?_⟩
  rw [List.getElem?_eq_getElem hm, Option.getD_some] at h
  simp only [Bool.not_eq_true, List.all_eq_false]
  exact ⟨_, List.getElem_mem hm, by simp [h]⟩
 unfold openE
 rw [h1]; rfl
theorem open_outs {ins outs : List (List Bool)} {i m : Nat} (hi : i < outs.length) (hm : m < (outs[i]?.getD []).length) (h : (outs[i]?.getD [])[m]?.getD false = false) : openE ins outs = 87 := by
 have h1 : (outs.all fun s => s.all id) = false := by
  rw [List.all_eq_false]
  rw [List.getElem?_eq_getElem hi, Option.getD_some] at hm h
  refine ⟨outs[i], List.getElem_mem hi, ?_⟩
  rw [List.getElem?_eq_getElem hm, Option.getD_some] at h
  simp only [Bool.not_eq_true, List.all_eq_false]
  exact ⟨_, List.getElem_mem hm, by simp [h]⟩
 unfold openE
 rw [h1, Bool.and_false]; rfl
theorem all_to {l : List Bool} (h : ∀ m, m < l.length → l[m]?.getD false = true) : l.all id = true := by
 rw [List.all_eq_true]
 intro x hx
 obtain ⟨r, hr, rfl⟩ := List.mem_iff_getElem.1 hx
 have := h r hr
 rwa [List.getElem?_eq_getElem hr, Option.getD_some] at this
theorem bvs_get' {l : List Bool} {k : Nat} (h : k < l.length) : (bvs l).toArray[k]? = some (.bool (l[k]?.getD false)) := by simp [bvs, h]
set_option maxRecDepth 100000 in
set_option maxHeartbeats 2000000 in
theorem gopen_any (w : World) (o : Col) (C B : Nat) (X : ChkV) (k : Chk) (ao : Option Addr) (n cap : Nat) (hva : X.va = .slice ao n cap) (hi : k.ins.length = n) (ho : k.outs.length = n) (hn : n ≤ 1000000) (hrl : ∀ r : Nat, (k.ins[r]?.getD []).length ≤ 1000000 ∧ (k.outs[r]?.getD []).length ≤ 1000000) (h : ChkAt w o C B X k) :
  Calls Tryz.prog 82 #[.pointer (some ⟨C, 0, none⟩)] w (ChkRet w o C B X (openE k.ins k.outs) k) := by
 obtain ⟨E, hE⟩ : ∃ E, openE k.ins k.outs = E := ⟨_, rfl⟩
 rw [hE]
 have HE := Lib.hid hE
 have HI := Lib.hid hi
 have HO := Lib.hid ho
 have HN := Lib.hid hn
 have HRL := Lib.hid hrl
 have hbR := below_alloc w (.cells #[.int .u8 0, .int .i64 0, .int .i64 0] 147)
 have HT0 := Lib.hid ((Turn.of_below o 7 hbR).mono (D := ChkC) (fun _ h => h.elim))
 have hC0 := h.below 7 hbR
 have q1 := hC0.cells.2.1
 rw [hva] at q1
 have HC0 := Lib.hid hC0
 have HR0 := Lib.hid (spot_new w o 7)
 clear hE hva hi ho hn hrl h hbR hC0
 go_enter Tryz.func82, Tryz.ntmps82
 go_wp2_with fail
 clear q1
 obtain ⟨R, hR⟩ : ∃ R, w.heap.size = R := ⟨_, rfl⟩
 have HRE := Lib.hid hR
 rw [hR] at HR0 HT0 HC0 ⊢
 clear hR
 generalize w.alloc (.cells #[.int .u8 0, .int .i64 0, .int .i64 0] 147) = W at *
 generalize ext o R 7 = q at *
 go_loopw [15] (fun i wr => ∃ j : Nat, j ≤ n ∧ i = .int .i64 j ∧ Below W.heap.size W wr ∧ FullTo k.ins k.outs j) (fun i _ => n - (intOf i).toNat)
 case atStart => exact ⟨0, Nat.zero_le _, rfl, Below.refl _ _, fun r hr => absurd hr (by omega)⟩
 case round =>
  obtain ⟨j, hj, rfl, hb, hfull⟩ := hrel
  have HB := Lib.hid hb
  have HF := Lib.hid hfull
  clear hb hfull
  by_cases hlt : j < n
  ·
   have hlti : (j : Int) < n := by omega
   have hC := HC0.out.below 9 HB.out
   obtain ⟨gI, hSI⟩ := hC.ins
   obtain ⟨gO, hSO⟩ := hC.outs
   obtain ⟨ia, ic, hIv⟩ := hSI.own.slice
   obtain ⟨oa, oc, hOv⟩ := hSO.own.slice
   have y6 := hC.cells.2.2.2.2.2.2.1
   have y7 := hC.cells.2.2.2.2.2.2.2
   rw [hIv] at y6 hSI
   rw [hOv] at y7 hSO
   obtain ⟨_, hci, g1, rfl, r1⟩ := hSI.row (a := j) (by have := HI.out; omega)
   obtain ⟨_, hco, g2, rfl, r2⟩ := hSO.row (a := j) (by have := HO.out; omega)
   have b1 := hSI.rows j (by have := HI.out; omega)
   have b2 := hSO.rows j (by have := HO.out; omega)
   obtain ⟨ri, hri⟩ : ∃ x, k.ins[j]?.getD [] = x := ⟨_, rfl⟩
   obtain ⟨ro, hro⟩ : ∃ x, k.outs[j]?.getD [] = x := ⟨_, rfl⟩
   have hbi : ri.length ≤ 1000000 := hri ▸ (HRL.out j).1
   have hbo : ro.length ≤ 1000000 := hro ▸ (HRL.out j).2
   rw [hri] at r1 b1
   rw [hro] at r2 b2
   generalize gI[j]?.getD 0 = G1 at *
   generalize gO[j]?.getD 0 = G2 at *
   have HRI := Lib.hid hri
   have HRO := Lib.hid hro
   have HB1 := Lib.hid b1
   have HB2 := Lib.hid b2
   have hIl := HI.out
   have hOl := HO.out
   rw [hIl] at y6 hci
   rw [hOl] at y7 hco
   have hcii : (n : Int) ≤ ic := by omega
   have hcoi : (n : Int) ≤ oc := by omega
   clear hC hSI hSO hIv hOv hri hro b1 b2 hIl hOl
   go_wp2_with fail
   refine wp_region_lex (fun w' => w'.cell? ⟨C, 6, none⟩ = some (.slice (some ⟨g1, 0, none⟩) n ic) ∧ w'.cell? ⟨C, 7, none⟩ = some (.slice (some ⟨g2, 0, none⟩) n oc) ∧ w'.cell? ⟨g1, j, none⟩ = some (.slice (some ⟨G1, 0, none⟩) ri.length ri.length) ∧ w'.cell? ⟨g2, j, none⟩ = some (.slice (some ⟨G2, 0, none⟩) ro.length ro.length)) [0, 1, 2, 3, 4, 5, 6, 7, 8, 9, 10, 11, 12, 13, 16] [14, 15] (by kernel_rfl) (by kernel_rfl) rfl (fun _ _ hx h => ⟨hx.cell h.1, hx.cell h.2.1, hx.cell h.2.2.1, hx.cell h.2.2.2⟩) ⟨y6, y7, r1, r2⟩ ?_
   intro Q' hQ'
   simp only [pickOps, List.flatMap_cons, List.flatMap_nil, List.drop_succ_cons, List.drop_zero, List.take_succ_cons, List.take_zero, List.cons_append, List.nil_append, List.append_nil]
   repeat (first
    | (refine wpReads_skip (by rfl) ?_; (try simp only [Act.put, List.setIfInBounds_toArray, List.set_cons_zero, List.set_cons_succ]))
    | (refine wpReads_cons ?_ (by rfl) (by rfl) ?_ ?_; rotate_left; (intro wz hz; (try dsimp only at hz); go_simp; try with_reducible rfl); (try simp only [Act.put, List.setIfInBounds_toArray, List.set_cons_zero, List.set_cons_succ]))
    | (refine wpReads_any ?_ (by rfl) ?_ ?_; rotate_left; (intro wz; go_simp; try with_reducible rfl); (try simp only [Act.put, List.setIfInBounds_toArray, List.set_cons_zero, List.set_cons_succ])))
   refine wpReads_nil ?_
   have hbT := below_alloc wr (.cells #[.slice (some ⟨G1, 0, none⟩) ri.length ri.length, .slice (some ⟨G2, 0, none⟩) ro.length ro.length] 217)
   have hT := heap_alloc_new wr (.cells #[.slice (some ⟨G1, 0, none⟩) ri.length ri.length, .slice (some ⟨G2, 0, none⟩) ro.length ro.length] 217)
   have t0 := cells_row _ _ hT 0 _ rfl
   have t1 := cells_row _ _ hT 1 _ rfl
   have HBT := Lib.hid (HB.out.trans (hbT.mono HB.out.size))
   have HP1 := Lib.hid (HB1.out.turn (Turn.of_below _ 9 hbT) (fun h => h))
   have HP2 := Lib.hid (HB2.out.turn (Turn.of_below _ 9 hbT) (fun h => h))
   clear hbT hT y6 y7 r1 r2 HB1 HB2 HB
   go_wp2_with fail
   obtain ⟨W2, hW2⟩ : ∃ W2, (wr.alloc (.cells #[.slice (some ⟨G1, 0, none⟩) ri.length ri.length, .slice (some ⟨G2, 0, none⟩) ro.length ro.length] 217)).drew = W2 := ⟨_, rfl⟩
   have t0' : W2.cell? ⟨wr.heap.size, 0, none⟩ = some (.slice (some ⟨G1, 0, none⟩) ri.length ri.length) := by rw [← hW2]; exact t0
   have t1' : W2.cell? ⟨wr.heap.size, 1, none⟩ = some (.slice (some ⟨G2, 0, none⟩) ro.length ro.length) := by rw [← hW2]; exact t1
   have HB2' : Hid (Below W.heap.size W W2) := Lib.hid (by rw [← hW2]; exact below_dr (n := 1) HBT.out)
   have HQ1 : Hid (∀ m, m < ri.length → W2.cell? ⟨G1, m, none⟩ = some (.bool (ri[m]?.getD false))) := Lib.hid (fun m hm => by rw [← hW2]; exact HP1.out.cell m _ (bvs_get' hm))
   have HQ2 : Hid (∀ m, m < ro.length → W2.cell? ⟨G2, m, none⟩ = some (.bool (ro[m]?.getD false))) := Lib.hid (fun m hm => by rw [← hW2]; exact HP2.out.cell m _ (bvs_get' hm))
   rw [hW2]
   clear t0 t1 HBT HP1 HP2 hW2
   generalize wr.heap.size = T at *
   go_loopw [34] (fun jv wq => ∃ m : Nat, m ≤ 2 ∧ jv = .int .i64 m ∧ wq = W2 ∧ (1 ≤ m → ri.all id = true) ∧ (2 ≤ m → ro.all id = true)) (fun jv _ => 2 - (intOf jv).toNat)
   case atStart => exact ⟨0, by omega, rfl, rfl, fun h => absurd h (by omega), fun h => absurd h (by omega)⟩
   case round =>
    obtain ⟨m, hm, rfl, hw, hm1, hm2⟩ := hrel
    subst hw
    have HM1 := Lib.hid hm1
    have HM2 := Lib.hid hm2
    clear hm1 hm2
    by_cases h0 : m = 0
    ·
     subst h0
     go_wp2_with fail
     go_loopw [40] (fun pv wq => ∃ p : Nat, p ≤ ri.length ∧ pv = .int .i64 p ∧ wq = wr ∧ ∀ x, x < p → ri[x]?.getD false = true) (fun pv _ => ri.length - (intOf pv).toNat)
     case atStart => exact ⟨0, Nat.zero_le _, rfl, rfl, fun x hx => absurd hx (by omega)⟩
     case round =>
      obtain ⟨p, hp, rfl, hw2, hall⟩ := hrel
      subst hw2
      have HAll := Lib.hid hall
      clear hall
      by_cases hpl : p < ri.length
      ·
       have hpi : (p : Int) < ri.length := by omega
       have hq := HQ1.out p hpl
       obtain ⟨bb, hpf⟩ : ∃ bb, ri[p]?.getD false = bb := ⟨_, rfl⟩
       rw [hpf] at hq
       cases bb with
       | false =>
        have e : E = 87 := by rw [← HE.out]; exact open_ins (i := j) (by have := HI.out; omega) (by rw [HRI.out]; exact hpl) (by rw [HRI.out]; exact hpf)
        subst e
        have hBB := HB2'.out
        have HR := Lib.hid (HR0.out.turn (Turn.of_below q 9 hBB) (fun h => h))
        have HT := Lib.hid (HT0.out.trans ((Turn.of_below q 9 hBB).mono (D := ChkC) (fun _ h => h.elim)) (fun _ h => h))
        clear hBB
        have z0 := HR.out.cell 0 _ rfl
        have z1 := HR.out.cell 1 _ rfl
        have z2 := HR.out.cell 2 _ rfl
        have f0 := HR.out.frozen 0
        have f1 := HR.out.frozen 1
        have f2 := HR.out.frozen 2
        go_wp2
        refine bodyPost_ret_by (results_tmp_row rfl _ _ _ _ _ _ _ rfl (spot_set HR.out) Tryz.underlying147 rfl (by kernel_rfl)) rfl ?_
        exact ⟨⟨_, _, _, rfl⟩, _, HT.out.late 7 (spot_mods (by have := HRE.out; omega) _ _ _), fun h => by cases h⟩
       | true =>
        have HAll2 : Hid (∀ x, x < p + 1 → ri[x]?.getD false = true) := Lib.hid (fun x hx => by
         by_cases e : x = p
         ·
          rw [e]; exact hpf
         ·
          exact HAll.out x (by omega))
        clear hpf
        go_wp2
        go_roundw
        case rel => exact ⟨p + 1, hpl, by first | rfl | go_num, by first | rfl | trivial, HAll2.out⟩
        case measure => first | (simp [intOf]; omega) | (rw [IntWalk.wrap64_in _ (by omega)]; simp [intOf]; omega)
      ·
       obtain rfl : p = ri.length := by omega
       go_wp2
       go_roundw
       case rel => exact ⟨1, by omega, by first | rfl | go_num, by first | rfl | trivial, fun _ => all_to (HAll.out), fun h => absurd h (by omega)⟩
       case measure => simp [intOf]
    ·
     by_cases h1 : m = 1
     ·
      subst h1
      go_wp2_with fail
      go_loopw [40] (fun pv wq => ∃ p : Nat, p ≤ ro.length ∧ pv = .int .i64 p ∧ wq = wr ∧ ∀ x, x < p → ro[x]?.getD false = true) (fun pv _ => ro.length - (intOf pv).toNat)
      case atStart => exact ⟨0, Nat.zero_le _, rfl, rfl, fun x hx => absurd hx (by omega)⟩
      case round =>
       obtain ⟨p, hp, rfl, hw2, hall⟩ := hrel
       subst hw2
       have HAll := Lib.hid hall
       clear hall
       by_cases hpl : p < ro.length
       ·
        have hpi : (p : Int) < ro.length := by omega
        have hq := HQ2.out p hpl
        obtain ⟨bb, hpf⟩ : ∃ bb, ro[p]?.getD false = bb := ⟨_, rfl⟩
        rw [hpf] at hq
        cases bb with
        | false =>
         have e : E = 87 := by rw [← HE.out]; exact open_outs (i := j) (by have := HO.out; omega) (by rw [HRO.out]; exact hpl) (by rw [HRO.out]; exact hpf)
         subst e
         have hBB := HB2'.out
         have HR := Lib.hid (HR0.out.turn (Turn.of_below q 9 hBB) (fun h => h))
         have HT := Lib.hid (HT0.out.trans ((Turn.of_below q 9 hBB).mono (D := ChkC) (fun _ h => h.elim)) (fun _ h => h))
         clear hBB
         have z0 := HR.out.cell 0 _ rfl
         have z1 := HR.out.cell 1 _ rfl
         have z2 := HR.out.cell 2 _ rfl
         have f0 := HR.out.frozen 0
         have f1 := HR.out.frozen 1
         have f2 := HR.out.frozen 2
         go_wp2
         refine bodyPost_ret_by (results_tmp_row rfl _ _ _ _ _ _ _ rfl (spot_set HR.out) Tryz.underlying147 rfl (by kernel_rfl)) rfl ?_
         exact ⟨⟨_, _, _, rfl⟩, _, HT.out.late 7 (spot_mods (by have := HRE.out; omega) _ _ _), fun h => by cases h⟩
        | true =>
         have HAll2 : Hid (∀ x, x < p + 1 → ro[x]?.getD false = true) := Lib.hid (fun x hx => by
          by_cases e : x = p
          ·
           rw [e]; exact hpf
          ·
           exact HAll.out x (by omega))
         clear hpf
         go_wp2
         go_roundw
         case rel => exact ⟨p + 1, hpl, by first | rfl | go_num, by first | rfl | trivial, HAll2.out⟩
         case measure => first | (simp [intOf]; omega) | (rw [IntWalk.wrap64_in _ (by omega)]; simp [intOf]; omega)
       ·
        obtain rfl : p = ro.length := by omega
        go_wp2
        go_roundw
        case rel => exact ⟨2, by omega, by first | rfl | go_num, by first | rfl | trivial, fun _ => HM1.out (Nat.le_refl _), fun _ => all_to (HAll.out)⟩
        case measure => simp [intOf]
     ·
      obtain rfl : m = 2 := by omega
      have HFn : Hid (FullTo k.ins k.outs (j + 1)) := Lib.hid (fun r hr => by
       by_cases e : r = j
       ·
        subst e; rw [HRI.out, HRO.out]; exact ⟨HM1.out (by omega), HM2.out (by omega)⟩
       ·
        exact HF.out r (by omega))
      have hnn := HN.out
      go_wp2
      go_roundw
      case rel => exact ⟨j + 1, hlt, by go_num, HB2'.out, HFn.out⟩
      case measure => simp [intOf]; omega
  ·
   obtain rfl : j = n := by omega
   have e : E = 0 := by rw [← HE.out]; exact full_all (HO.out.trans HI.out.symm) (HI.out.symm ▸ HF.out)
   subst e
   have HR := Lib.hid (HR0.out.turn (Turn.of_below q 9 HB.out) (fun h => h))
   have HT := Lib.hid (HT0.out.trans ((Turn.of_below q 9 HB.out).mono (D := ChkC) (fun _ h => h.elim)) (fun _ h => h))
   have HC9 := Lib.hid (HC0.out.below 9 HB.out)
   have z0 := HR.out.cell 0 _ rfl
   have z1 := HR.out.cell 1 _ rfl
   have z2 := HR.out.cell 2 _ rfl
   have f0 := HR.out.frozen 0
   have f1 := HR.out.frozen 1
   have f2 := HR.out.frozen 2
   go_wp2
   refine bodyPost_ret_by (results_tmp_row rfl _ _ _ _ _ _ _ rfl (spot_set HR.out) Tryz.underlying147 rfl (by kernel_rfl)) rfl ?_
   exact ⟨⟨_, _, _, rfl⟩, _, HT.out.late 7 (spot_mods (by have := HRE.out; omega) _ _ _), fun _ => HC9.out.spot HR.out _ _ _⟩
end Go.Proofs.YtaholpfikcdhbaaGreat

/- The graph's find: what it is before its calls. -/
namespace Go.Proofs.YtaholpfikcdhbaaGreat
open Go.RowKit
def findO (N : Nat) : Col := fun k => if k < N then 0 else if k = N + 2 then 2 else if k = N + 3 then 1 else 7
def findW (w : World) (s : ByteArray) (va ve vi vo : Value) : World :=
 (((w.alloc (.cells #[.string s, va, ve, vi, vo] 26)).alloc (.cells #[.int .u8 0, .int .i64 0, .int .i64 0] 147)).alloc (.map #[] 0)).alloc (.cells #[.string s, va, ve, vi, vo, .map (some (w.heap.size + 2)), .slice none 0 0, .slice none 0 0] 176)
theorem find_start (w : World) (s : ByteArray) (va ve vi vo : Value) :
  Kept w.heap.size (findO w.heap.size) w (findW w s va ve vi vo) ∧ ChkAt (findW w s va ve vi vo) (findO w.heap.size) (w.heap.size + 3) (w.heap.size + 2) ⟨s, va, ve, vi, vo, .slice none 0 0, .slice none 0 0⟩ chk0 ∧
  Blk (findW w s va ve vi vo) (findO w.heap.size) 7 w.heap.size 26 #[.string s, va, ve, vi, vo] ∧ Blk (findW w s va ve vi vo) (findO w.heap.size) 7 (w.heap.size + 1) 147 #[.int .u8 0, .int .i64 0, .int .i64 0] := by
 have h0 := heap_alloc_new w (.cells #[.string s, va, ve, vi, vo] 26)
 have h1 := heap_alloc_new (w.alloc (.cells #[.string s, va, ve, vi, vo] 26)) (.cells #[.int .u8 0, .int .i64 0, .int .i64 0] 147)
 have hm := World.ownsMap_made (H := Unit) ((w.alloc (.cells #[.string s, va, ve, vi, vo] 26)).alloc (.cells #[.int .u8 0, .int .i64 0, .int .i64 0] 147)) Tryz.prog 9 (plainElem Tryz.prog 3)
 have h3 := heap_alloc_new (((w.alloc (.cells #[.string s, va, ve, vi, vo] 26)).alloc (.cells #[.int .u8 0, .int .i64 0, .int .i64 0] 147)).alloc (.map #[] 0)) (.cells #[.string s, va, ve, vi, vo, .map (some (w.heap.size + 2)), .slice none 0 0, .slice none 0 0] 176)
 simp only [World.size_alloc] at h1 hm h3
 have hb : Below w.heap.size w (findW w s va ve vi vo) := (((below_alloc w _).alloc (by simp) _).alloc (by simp; omega) _).alloc (by simp; omega) _
 refine ⟨⟨hb, fun k hk => by simp [findO, hk], hb.size⟩, ⟨_, 0, [], [], ⟨h3, by simp [findO]⟩, hm.alloc _, by simp [findO], seen_start, Nat.zero_le _, Side.nil _ _ _ _, Side.nil _ _ _ _⟩, ⟨block_alloc (block_alloc (block_alloc h0 _) _) _, by simp [findO]⟩, ⟨block_alloc (block_alloc h1 _) _, by simp [findO]⟩⟩
end Go.Proofs.YtaholpfikcdhbaaGreat

/- The rows of a checker's sides: how many, how long. No function in sight. -/
namespace Go.Proofs.YtaholpfikcdhbaaGreat
def RowsLe (side : List (List Bool)) (m : Nat) : Prop := ∀ r : Nat, (side[r]?.getD []).length ≤ m
theorem takeS_len (side : List (List Bool)) (a p : Int) : (takeS side a p).length = side.length := by simp [takeS]
theorem takeS_rows {side : List (List Bool)} {m : Nat} (h : RowsLe side m) (a p : Int) : RowsLe (takeS side a p) m := fun r => by
 unfold takeS
 by_cases e : a.toNat = r
 ·
  by_cases hr : r < side.length
  ·
   rw [e, List.getElem?_set_self hr, Option.getD_some, List.length_set]
   unfold side1
   exact h _
  ·
   rw [List.getElem?_eq_none (by simpa using Nat.le_of_not_lt hr)]
   simp
 ·
  rw [List.getElem?_set_ne e]; exact h r
theorem edgesC_len (l : List GEdge) : ∀ c : Chk, (edgesC c l).ins.length = c.ins.length ∧ (edgesC c l).outs.length = c.outs.length ∧ (edgesC c l).seen = c.seen := by
 induction l with
 | nil => intro c; exact ⟨rfl, rfl, rfl⟩
 | cons e r ih => intro c; rw [show edgesC c (e :: r) = edgesC (edgeC c e) r from rfl, (ih _).1, (ih _).2.1, (ih _).2.2]; simp [edgeC, takeS_len]
theorem edgesC_rows (l : List GEdge) {m : Nat} : ∀ c : Chk, RowsLe c.ins m → RowsLe c.outs m → RowsLe (edgesC c l).ins m ∧ RowsLe (edgesC c l).outs m := by
 induction l with
 | nil => intro c h1 h2; exact ⟨h1, h2⟩
 | cons e r ih => intro c h1 h2; exact ih _ (takeS_rows h1 _ _) (takeS_rows h2 _ _)
theorem portsS_len (l : List GPort) : ∀ side : List (List Bool), (portsS side l).length = side.length := by
 induction l with
 | nil => intro s; rfl
 | cons p r ih => intro s; rw [show portsS s (p :: r) = portsS (takeS s p.actor p.port) r from rfl, ih, takeS_len]
theorem portsS_rows (l : List GPort) {m : Nat} : ∀ side : List (List Bool), RowsLe side m → RowsLe (portsS side l) m := by
 induction l with
 | nil => intro s h; exact h
 | cons p r ih => intro s h; exact ih _ (takeS_rows h _ _)
theorem rowsLe_snoc {side : List (List Bool)} {m n : Nat} (h : RowsLe side m) (hn : n ≤ m) : RowsLe (side ++ [List.replicate n false]) m := fun r => by
 by_cases hr : r < side.length
 ·
  rw [List.getElem?_append_left hr]; exact h r
 ·
  by_cases e : r = side.length
  ·
   subst e; simp; exact hn
  ·
   rw [List.getElem?_eq_none (by simp; omega)]; simp
theorem actorsE_rows (l : List GActor) : ∀ c : Chk, actorsE c l = 0 → RowsLe c.ins 16 → RowsLe c.outs 16 → RowsLe (actorsC c l).ins 16 ∧ RowsLe (actorsC c l).outs 16 := by
 induction l with
 | nil => intro c _ h1 h2; exact ⟨h1, h2⟩
 | cons a r ih =>
  intro c h h1 h2
  unfold actorsE at h
  by_cases h0 : actorE c.seen a = 0
  ·
   rw [if_neg (by simpa using h0)] at h
   have hg : goodP a.tag a.params := by
    refine Decidable.byContradiction fun hn => ?_
    unfold actorE at h0
    split at h0
    ·
     rename_i hx; exact hx h0
    ·
     have h0 : errP a.tag = 0 := by first | exact h0 | (rw [if_neg hn] at h0; exact h0)
     unfold errP at h0
     split at h0 <;> cases h0
   have hl := shape_len hg
   exact ih _ h (rowsLe_snoc h1 hl.1) (rowsLe_snoc h2 hl.2)
  ·
   rw [if_pos h0] at h
   exact absurd h h0
theorem rowsLe_nil (m : Nat) : RowsLe [] m := fun r => by simp
end Go.Proofs.YtaholpfikcdhbaaGreat

/- A region that draws its order: reads, one call, looks at its answer; beside it a new block, at whatever moment. No program in sight. -/
namespace Go.Proofs.YtaholpfikcdhbaaGreat
section
variable {P : Program} {md : Region.Mode} {ops : Array Oper} {Q : Exit → Go.Act → World → Prop} {S : World → Prop}
def mid2OK (md : Region.Mode) (ops : Array Oper) (r1 : List Nat) (k m : Nat) (r2 M : List Nat) : Bool :=
 Region.noSelect ops && ((r1 ++ r2).all fun i => anyAt ops i || (List.range ops.size).all fun j => madeB ops j || (r1 ++ r2).contains j || M.contains j || behindB md ops ops.size j i) &&
 stageHead md ops (fun _ => true) r1 (Array.replicate ops.size false) && decide (Region.ready md ops (setAll (Array.replicate ops.size false) r1) = [k, m]) &&
 stageHead md ops (fun _ => true) r2 ((setAll (Array.replicate ops.size false) r1).setIfInBounds k true) &&
 decide (Region.ready md ops ((setAll (Array.replicate ops.size false) r1).setIfInBounds m true) = [k]) &&
 stageHead md ops (fun _ => true) r2 (((setAll (Array.replicate ops.size false) r1).setIfInBounds m true).setIfInBounds k true)
theorem wp_region_mid2 {id : Nat} {l : List Oper} {a : Go.Act} {w : World} (S : World → Prop) (r1 : List Nat) (k m : Nat) (r2 M : List Nat) (n : Nat) (hm : P.follows .mixedOrders = true)
  (hB : mid2OK .any l.toArray r1 k m r2 M = true) (hlen : r1.length + ((r2.length + n) + 1 + 1) = l.length) (hS : S w.drew)
  (h : ∀ Q' : Exit → Go.Act → World → Prop, (∀ a w, Q .normal a w → Q' .normal a w) → wpReads P l.toArray S (fun a' =>
   wpList P l.toArray (EndK Q' fun a1 w1 => S w1 ∧ wpReads P l.toArray S (fun a2 => wpAnyT P .any l.toArray Q' S (bsOf l.toArray (r1 ++ r2) M) (n + 1) (setAll ((setAll (Array.replicate l.length false) r1).setIfInBounds k true) r2) a2 w1) (pickOps l.toArray r2) a1) (pickOps l.toArray [k]) a' w.drew ∧
   wpList P l.toArray (EndK Q' fun a0 w0 => S w0 ∧ wpList P l.toArray (EndK Q' fun a1 w1 => S w1 ∧ wpReads P l.toArray S (fun a2 => wpAnyT P .any l.toArray Q' S (bsOf l.toArray (r1 ++ r2) M) n (setAll (((setAll (Array.replicate l.length false) r1).setIfInBounds m true).setIfInBounds k true) r2) a2 w1) (pickOps l.toArray r2) a1) (pickOps l.toArray [k]) a0 w0) (pickOps l.toArray [m]) a' w.drew) (pickOps l.toArray r1) a) :
  (Code.region id l.toArray true).wp P Q a w := by
 refine wp_region_noPanic ?_
 refine wp_region_any hm ?_
 simp only [mid2OK, Bool.and_eq_true, List.all_eq_true, List.mem_range, Bool.or_eq_true, decide_eq_true_eq] at hB
 obtain ⟨⟨⟨⟨⟨⟨hsel, hbe⟩, h1⟩, hk⟩, h2⟩, hkm⟩, h3⟩ := hB
 refine wpAny_of_T (S := S) (B := bsOf l.toArray (r1 ++ r2) M) _ _ _ _ ?_
 have hbe' : ∀ i ∈ (r1 ++ r2), anyAt l.toArray i = false → ∀ j, j < l.toArray.size → madeB l.toArray j = true ∨ (r1 ++ r2).contains j = true ∨ M.contains j = true ∨ behindB .any l.toArray l.toArray.size j i = true := fun i hi hany j hj => by
  rcases hbe i hi with h0 | h0
  ·
   rw [hany] at h0; cases h0
  rcases h0 j hj with ((h1 | h1) | h1) | h1
  ·
   exact .inl h1
  ·
   exact .inr (.inl h1)
  ·
   exact .inr (.inr (.inl h1))
  ·
   exact .inr (.inr (.inr h1))
 have hcl0 : closedL .any l.toArray (Array.replicate l.toArray.size false) := fun j oj _ hl => by rw [getD_replicate_false] at hl; cases hl
 have hcl1 := closedL_setAll r1 _ hcl0 h1
 have hkr : k ∈ Region.ready .any l.toArray (setAll (Array.replicate l.toArray.size false) r1) := by rw [hk]; simp
 have hmr : m ∈ Region.ready .any l.toArray (setAll (Array.replicate l.toArray.size false) r1) := by rw [hk]; simp
 have hcl2 := closedL_set hcl1 hkr
 have hcl3 := closedL_set hcl1 hmr
 have hkr3 : k ∈ Region.ready .any l.toArray ((setAll (Array.replicate l.toArray.size false) r1).setIfInBounds m true) := by rw [hkm]; simp
 have hcl4 := closedL_set hcl3 hkr3
 have hh := h (NoPanic Q) (fun _ _ h => NoPanic.normal h)
 have key := wpAnyT_reads (P := P) (md := .any) (Q := NoPanic Q) (S := S) (reads := r1 ++ r2) (M := M) (n := (r2.length + n) + 1 + 1) hsel (fun c a a' w h => h) hbe' r1 (Array.replicate l.toArray.size false) a { w with drawn := w.drawn + 1 } (fun i hi => by simp [hi]) hcl0 h1 hS
 rw [hlen] at key
 have hk' : Region.ready .any l.toArray (setAll (Array.replicate l.toArray.size false) r1) = [k, m] := hk
 have go : wpReads P l.toArray S (fun a' => wpAnyT P .any l.toArray (NoPanic Q) S (bsOf l.toArray (r1 ++ r2) M) (r2.length + n + 1 + 1) (setAll (Array.replicate l.toArray.size false) r1) a' { w with drawn := w.drawn + 1 }) (pickOps l.toArray r1) a := by
  refine wpReads_mono (fun a' ha' => ?_) _ _ hh
  refine ⟨fun h0 => (by rw [h0] at hk'; cases hk'), fun j hj => ?_⟩
  rw [hk'] at hj
  rcases List.mem_cons.1 hj with rfl | hj
  ·
   refine wpOp_of_listK (ready_lt hkr) (fun a1 w1 h1' => ?_) ha'.1
   obtain ⟨hS1, hr2⟩ := h1'
   refine ⟨fun _ _ => hS1, ?_⟩
   have e : r2.length + n + 1 = r2.length + (n + 1) := by omega
   rw [e]
   exact wpAnyT_reads (P := P) (md := .any) (Q := NoPanic Q) (S := S) (reads := r1 ++ r2) (M := M) (n := n + 1) hsel (fun c a a' w h => h) hbe' r2 _ a1 w1 (fun i hi => by simp [hi]) hcl2 h2 hS1 (by simpa using hr2)
  ·
   obtain rfl : j = m := by simpa using hj
   refine wpOp_of_listK (ready_lt hmr) (fun a0 w0 h0' => ?_) ha'.2
   obtain ⟨hS0, hkk⟩ := h0'
   refine ⟨fun _ _ => hS0, ?_⟩
   have hkm' : Region.ready .any l.toArray ((setAll (Array.replicate l.toArray.size false) r1).setIfInBounds j true) = [k] := hkm
   refine ⟨fun h0 => (by rw [h0] at hkm'; cases hkm'), fun i hi => ?_⟩
   rw [hkm'] at hi
   obtain rfl : i = k := by simpa using hi
   refine wpOp_of_listK (ready_lt hkr3) (fun a1 w1 h1' => ?_) hkk
   obtain ⟨hS1, hr2⟩ := h1'
   refine ⟨fun _ _ => hS1, ?_⟩
   exact wpAnyT_reads (P := P) (md := .any) (Q := NoPanic Q) (S := S) (reads := r1 ++ r2) (M := M) (n := n) hsel (fun c a a' w h => h) hbe' r2 _ a1 w1 (fun i hi => by simp [hi]) hcl4 h3 hS1 (by simpa using hr2)
 have := key go
 simpa using this
end
end Go.Proofs.YtaholpfikcdhbaaGreat

/- The graph's find. -/
namespace Go.Proofs.YtaholpfikcdhbaaGreat
open Go.RowKit
def FindRet (w : World) (E : Int) (e : Ending) (w' : World) : Prop := SpotRet E e ∧ Below w.heap.size w w'
structure FindAt (w wr : World) (q : Col) (s : ByteArray) (va ve vi vo : Value) : Prop where
 kept : Kept w.heap.size q w wr
 gr : Blk wr q 7 w.heap.size 26 #[.string s, va, ve, vi, vo]
 sp : Blk wr q 7 (w.heap.size + 1) 147 #[.int .u8 0, .int .i64 0, .int .i64 0]
theorem FindAt.turn {w wr wr' : World} {q q' : Col} {s : ByteArray} {va ve vi vo : Value} (h : FindAt w wr q s va ve vi vo) (T : Turn q q' ChkC wr wr') : FindAt w wr' q' s va ve vi vo :=
 ⟨h.kept.turn T (by unfold ChkC; omega), h.gr.turn T (by unfold ChkC; omega), h.sp.turn T (by unfold ChkC; omega)⟩
theorem FindAt.below {w wr wr' : World} {q : Col} {s : ByteArray} {va ve vi vo : Value} (h : FindAt w wr q s va ve vi vo) (c : Nat) (hb : Below wr.heap.size wr wr') : FindAt w wr' (ext q wr.heap.size c) s va ve vi vo :=
 h.turn ((Turn.of_below q c hb).mono (fun _ h => h.elim))
theorem FindAt.ret {w wr : World} {q : Col} {s : ByteArray} {va ve vi vo : Value} (h : FindAt w wr q s va ve vi vo) (a b c : Value) : Below w.heap.size w (((wr.setCell ⟨w.heap.size + 1, 0, none⟩ a).setCell ⟨w.heap.size + 1, 1, none⟩ b).setCell ⟨w.heap.size + 1, 2, none⟩ c) :=
 ((h.kept.below.setCell (by simp) _).setCell (by simp) _).setCell (by simp) _
theorem spot_setd {w : World} {o : Col} {R : Nat} {a b c : Int} (h : Blk w o 7 R 147 #[.int .u8 0, .int .i64 0, .int .i64 0]) :
 (((w.setCell ⟨R, 0, none⟩ (.int .u8 a)).setCell ⟨R, 1, none⟩ (.int .i64 b)).setCell ⟨R, 2, none⟩ (.int .i64 c)).drew.heap[R]? = some (.cells #[.int .u8 a, .int .i64 b, .int .i64 c] 147 (0, 0)) := spot_set h
theorem chkP_C (x : Nat) (h : ChkP x) : ChkC x := by unfold ChkP at h; unfold ChkC; omega
theorem FindAt.turnC {w wr wr' : World} {q q' : Col} {Cs : Nat → Prop} {s : ByteArray} {va ve vi vo : Value} (h : FindAt w wr q s va ve vi vo) (T : Turn q q' Cs wr wr') (h0 : ¬ Cs 0) (h7 : ¬ Cs 7) : FindAt w wr' q' s va ve vi vo :=
 ⟨h.kept.turn T h0, h.gr.turn T h7, h.sp.turn T h7⟩
theorem ChkAt.kept67 {w w' : World} {o o' : Col} {Cs : Nat → Prop} {C B : Nat} {X : ChkV} {k : Chk} (h : ChkAt w o C B X k) (T : Turn o o' Cs w w') (h1 : ¬ Cs 1) : w'.cell? ⟨C, 6, none⟩ = some X.vI ∧ w'.cell? ⟨C, 7, none⟩ = some X.vO := by
 obtain ⟨D, n, gI, gO, b, _⟩ := h.st
 have b2 := b.turn T h1
 exact ⟨b2.cell 6 _ rfl, b2.cell 7 _ rfl⟩
theorem spot_turn {w : World} {o : Col} {L : Nat} {t : TypeId} {cs : Array Value} (h : Blk w o 8 L t cs) (a b c : Value) : Turn o (ext o w.heap.size 8) (fun x => x = 8) w (((w.setCell ⟨L, 0, none⟩ a).setCell ⟨L, 1, none⟩ b).setCell ⟨L, 2, none⟩ c) :=
 Turn.of_mods o 8 (spot_only w L a b c) (fun b _ e => by subst e; exact h.2)
theorem spot8_set {w : World} {o : Col} {R : Nat} {a b c : Int} (h : Blk w o 8 R 147 #[.int .u8 0, .int .i64 0, .int .i64 0]) :
  (((w.setCell ⟨R, 0, none⟩ (.int .u8 a)).setCell ⟨R, 1, none⟩ (.int .i64 b)).setCell ⟨R, 2, none⟩ (.int .i64 c)).heap[R]? = some (.cells #[.int .u8 a, .int .i64 b, .int .i64 c] 147 (0, 0)) :=
 block_setCell (block_setCell (block_setCell h.1 0 (.int .u8 a)) 1 (.int .i64 b)) 2 (.int .i64 c)
theorem check_tail {g : GGraph} (h1 : headE g = 0) (h2 : actorsE chk0 g.actors = 0) (h3 : edgesE (chk1 g) g.edges = 0) : checkE g = if portsE (chk2 g).seen (chk2 g).ins g.ins ≠ 0 then portsE (chk2 g).seen (chk2 g).ins g.ins
  else if portsE (portsN (chk2 g).seen g.ins) (chk2 g).outs g.outs ≠ 0 then portsE (portsN (chk2 g).seen g.ins) (chk2 g).outs g.outs else openE (portsS (chk2 g).ins g.ins) (portsS (chk2 g).outs g.outs) := by
 unfold checkE
 rw [h1, h2, h3]
 simp
theorem head_ok {g : GGraph} (h : headE g = 0) : g.actors.length ≤ 32 ∧ g.edges.length ≤ 96 ∧ g.ins.length ≤ 16 ∧ g.outs.length ≤ 16 := by
 unfold headE at h
 split at h
 ·
  cases h
 split at h
 ·
  cases h
 split at h
 ·
  cases h
 split at h
 ·
  cases h
 split at h
 ·
  cases h
 split at h
 ·
  cases h
 omega
theorem seen2 (g : GGraph) : (chk2 g).seen.length = g.actors.length := by
 rw [chk2, (edgesC_len _ _).2.2, chk1, actorsC_seen]; simp [chk0]
set_option maxRecDepth 100000 in
set_option maxHeartbeats 4000000 in
theorem gfind_any (w : World) (v : Value) (g : GGraph) (h : HasGraph w v g) (hs : g.name.size ≤ 4611686018427387904) (hsa : ∀ p ∈ g.actors, p.name.size ≤ 4611686018427387904 ∧ p.params.length ≤ 17600000000000) (hsi : ∀ p ∈ g.ins, p.name.size ≤ 4611686018427387904) (hso : ∀ p ∈ g.outs, p.name.size ≤ 4611686018427387904) :
  Calls Tryz.prog 65 #[v] w (FindRet w (checkE g)) := by
 obtain ⟨va, ve, vi, vo, rfl, ra, re, ri, ro⟩ := h.shape
 obtain ⟨a1, c1, rfl⟩ := ra.slice
 obtain ⟨a2, c2, rfl⟩ := re.slice
 obtain ⟨a3, c3, rfl⟩ := ri.slice
 obtain ⟨a4, c4, rfl⟩ := ro.slice
 obtain ⟨E, hE⟩ : ∃ E, checkE g = E := ⟨_, rfl⟩
 rw [hE]
 have HE := Lib.hid hE
 have RA := Lib.hid ra
 have RE := Lib.hid re
 have RI := Lib.hid ri
 have RO := Lib.hid ro
 have HS := Lib.hid hs
 have HSA := Lib.hid hsa
 have HSI := Lib.hid hsi
 have HSO := Lib.hid hso
 have hmm := @run_makeMap Tryz.prog
 obtain ⟨k0, kc, kg, ks⟩ := find_start w g.name (.slice a1 g.actors.length c1) (.slice a2 g.edges.length c2) (.slice a3 g.ins.length c3) (.slice a4 g.outs.length c4)
 have HF0 := Lib.hid (⟨k0, kg, ks⟩ : FindAt _ _ _ _ _ _ _ _)
 have HC0 := Lib.hid kc
 clear hE ra re ri ro hs hsa hsi hso k0 kc kg ks h
 go_enter Tryz.func65, Tryz.ntmps65
 go_wp2_with fail
 clear hmm
 unfold findW at HF0 HC0
 refine (ghead_any _ _ (w.heap.size + 3) (w.heap.size + 2) _ chk0 a1 a2 a3 a4 _ _ _ _ c1 c2 c3 c4 rfl rfl rfl rfl HS.out HC0.out).mono ?_
 rintro e w1 ⟨⟨xa, xb, xc, rfl⟩, o1, T, hC1⟩
 rw [show headL (ChkV.name ⟨g.name, .slice a1 g.actors.length c1, .slice a2 g.edges.length c2, .slice a3 g.ins.length c3, .slice a4 g.outs.length c4, .slice none 0 0, .slice none 0 0⟩) g.actors.length g.edges.length g.ins.length g.outs.length = headE g from rfl] at hC1 ⊢
 have HC1 := Lib.hid hC1
 have HF1 := Lib.hid (HF0.out.turn T)
 have HF2 := Lib.hid (HF1.out.below 7 (below_alloc _ (.cells #[.int .u8 xa, .int .i64 xb, .int .i64 xc] 147)))
 have hL := heap_alloc_new w1 (.cells #[.int .u8 xa, .int .i64 xb, .int .i64 xc] 147)
 have l0 := cells_row _ _ hL 0 _ rfl
 have l1 := cells_row _ _ hL 1 _ rfl
 have l2 := cells_row _ _ hL 2 _ rfl
 clear T hC1 hL HF0 HC0 HF1
 obtain ⟨ne, hne⟩ : ∃ x, headE g = x := ⟨_, rfl⟩
 rw [hne] at HC1 ⊢
 have HNE := Lib.hid hne
 clear hne
 by_cases h0 : ne = 0
 ·
  subst h0
  have hok := head_ok HNE.out
  have HC2 := Lib.hid ((HC1.out rfl).below 7 (below_alloc _ (.cells #[.int .u8 xa, .int .i64 xb, .int .i64 xc] 147)))
  clear HC1 l0 l1 l2
  go_wp2_with fail
  refine (gactors_any w _ _ (w.heap.size + 3) (w.heap.size + 2) _ chk0 g.actors RA.out HF2.out.kept (by simp [chk0]; omega) (by simp [chk0]; omega) (by simp [chk0]; omega) HSA.out HC2.out).mono ?_
  rintro e w3 ⟨⟨xa, xb, xc, rfl⟩, o3, vI, vO, T, hC3⟩
  have HC3 := Lib.hid hC3
  have HF3 := Lib.hid (HF2.out.turn T)
  have HF4 := Lib.hid (HF3.out.below 7 (below_alloc _ (.cells #[.int .u8 xa, .int .i64 xb, .int .i64 xc] 147)))
  have hL := heap_alloc_new w3 (.cells #[.int .u8 xa, .int .i64 xb, .int .i64 xc] 147)
  have l0 := cells_row _ _ hL 0 _ rfl
  have l1 := cells_row _ _ hL 1 _ rfl
  have l2 := cells_row _ _ hL 2 _ rfl
  clear T hC3 hL HF2 HC2 HF3
  obtain ⟨ne, hne⟩ : ∃ x, actorsE chk0 g.actors = x := ⟨_, rfl⟩
  rw [hne] at HC3 ⊢
  have HNA := Lib.hid hne
  clear hne
  by_cases h0 : ne = 0
  ·
   subst h0
   have HC4 : Hid (ChkAt _ _ (w.heap.size + 3) (w.heap.size + 2) _ (chk1 g)) := Lib.hid ((HC3.out rfl).below 7 (below_alloc _ (.cells #[.int .u8 xa, .int .i64 xb, .int .i64 xc] 147)))
   clear HC3 l0 l1 l2
   go_wp2_with fail
   refine (gedges_any w _ _ (w.heap.size + 3) (w.heap.size + 2) _ (chk1 g) g.edges RE.out HF4.out.kept (by omega) HC4.out).mono ?_
   rintro e w5 ⟨⟨xa, xb, xc, rfl⟩, o5, T, hC5⟩
   have HC5 := Lib.hid hC5
   have HF5 := Lib.hid (HF4.out.turn T)
   have HF6 := Lib.hid (HF5.out.below 7 (below_alloc _ (.cells #[.int .u8 xa, .int .i64 xb, .int .i64 xc] 147)))
   have hL := heap_alloc_new w5 (.cells #[.int .u8 xa, .int .i64 xb, .int .i64 xc] 147)
   have l0 := cells_row _ _ hL 0 _ rfl
   have l1 := cells_row _ _ hL 1 _ rfl
   have l2 := cells_row _ _ hL 2 _ rfl
   clear T hC5 hL HF4 HC4 HF5
   obtain ⟨ne, hne⟩ : ∃ x, edgesE (chk1 g) g.edges = x := ⟨_, rfl⟩
   rw [hne] at HC5 ⊢
   have HND := Lib.hid hne
   clear hne
   by_cases h0 : ne = 0
   ·
    subst h0
    have HC6 : Hid (ChkAt _ _ (w.heap.size + 3) (w.heap.size + 2) ⟨g.name, .slice a1 g.actors.length c1, .slice a2 g.edges.length c2, .slice a3 g.ins.length c3, .slice a4 g.outs.length c4, vI, vO⟩ (chk2 g)) := Lib.hid ((HC5.out rfl).below 7 (below_alloc _ (.cells #[.int .u8 xa, .int .i64 xb, .int .i64 xc] 147)))
    have y3 := HF6.out.gr.cell 3 _ rfl
    have y6 := HC6.out.cells.2.2.2.2.2.2.1
    clear HC5 l0 l1 l2
    go_wp2_with fail
    generalize w5.alloc (.cells #[.int .u8 xa, .int .i64 xb, .int .i64 xc] 147) = V at *
    generalize ext o5 w5.heap.size 7 = q6 at *
    have hlp : (chk2 g).seen.length + g.ins.length ≤ 1000000 := by have := seen2 g; omega
    refine wp_region_mid2 (fun w' => w'.cell? ⟨w.heap.size, 3, none⟩ = some (.slice a3 g.ins.length c3) ∧ w'.cell? ⟨w.heap.size + 3, 6, none⟩ = some vI) [0, 1, 2, 3, 4, 5, 6] 7 11 [8, 9, 10] [7] 2 (by kernel_rfl) (by kernel_rfl) rfl ⟨y3, y6⟩ ?_
    intro Q' hQ'
    simp only [pickOps, List.flatMap_cons, List.flatMap_nil, List.drop_succ_cons, List.drop_zero, List.take_succ_cons, List.take_zero, List.cons_append, List.nil_append, List.append_nil]
    repeat (first
     | (refine wpReads_skip (by rfl) ?_; (try simp only [Act.put, List.setIfInBounds_toArray, List.set_cons_zero, List.set_cons_succ]))
     | (refine wpReads_cons ?_ (by rfl) (by rfl) ?_ ?_; rotate_left; (intro wz hz; (try dsimp only at hz); go_simp; try with_reducible rfl); (try simp only [Act.put, List.setIfInBounds_toArray, List.set_cons_zero, List.set_cons_succ]))
     | (refine wpReads_any ?_ (by rfl) ?_ ?_; rotate_left; (intro wz; go_simp; try with_reducible rfl); (try simp only [Act.put, List.setIfInBounds_toArray, List.set_cons_zero, List.set_cons_succ])))
    refine wpReads_nil ?_
    refine ⟨?_, ?_⟩
    ·
     go_wp2_with fail
     refine (gports_in w _ _ (w.heap.size + 3) (w.heap.size + 2) ⟨g.name, .slice a1 g.actors.length c1, .slice a2 g.edges.length c2, .slice a3 g.ins.length c3, .slice a4 g.outs.length c4, vI, vO⟩ (chk2 g) _ g.ins 3 2 RI.out (HF6.out.kept.drewN 1) hlp HSI.out (HC6.out.drewN 1)).mono ?_
     rintro e w7 ⟨⟨xa, xb, xc, rfl⟩, o7, T, hC7⟩
     have T7 := ((Turn.refl _ ChkP _).drewN 1).trans T (fun _ h => h)
     have HF7 := Lib.hid (HF6.out.turn (T7.mono chkP_C))
     have HC7 := Lib.hid hC7
     have s3 := HF7.out.gr.cell 3 _ rfl
     have s6 := (HC6.out.kept67 T7 (by unfold ChkP; omega)).1
     clear T T7 hC7 HF6 HC6 y3 y6
     go_wp2
     refine ⟨⟨s3, s6⟩, ?_⟩
     repeat (first
      | (refine wpReads_skip (by rfl) ?_; (try simp only [Act.put, List.setIfInBounds_toArray, List.set_cons_zero, List.set_cons_succ]))
      | (refine wpReads_cons ?_ (by rfl) (by rfl) ?_ ?_; rotate_left; (intro wz hz; (try dsimp only at hz); go_simp; try with_reducible rfl); (try simp only [Act.put, List.setIfInBounds_toArray, List.set_cons_zero, List.set_cons_succ]))
      | (refine wpReads_any ?_ (by rfl) ?_ ?_; rotate_left; (intro wz; go_simp; try with_reducible rfl); (try simp only [Act.put, List.setIfInBounds_toArray, List.set_cons_zero, List.set_cons_succ])))
     refine wpReads_nil ?_
     refine wpAnyT_list (ks := [11, 12, 13]) (fun _ _ hx h => ⟨hx.cell h.1, hx.cell h.2⟩) (by kernel_rfl) ?_
     simp only [pickOps, List.flatMap_cons, List.flatMap_nil, List.drop_succ_cons, List.drop_zero, List.take_succ_cons, List.take_zero, List.cons_append, List.nil_append, List.append_nil]
     have HF8 := Lib.hid (HF7.out.below 8 (below_alloc _ (.cells #[.int .u8 xa, .int .i64 xb, .int .i64 xc] 147)))
     have hL := heap_alloc_new w7 (.cells #[.int .u8 xa, .int .i64 xb, .int .i64 xc] 147)
     have l0 := cells_row _ _ hL 0 _ rfl
     have l1 := cells_row _ _ hL 1 _ rfl
     have l2 := cells_row _ _ hL 2 _ rfl
     clear hL HF7 s3 s6
     obtain ⟨ne, hne⟩ : ∃ x, portsE (chk2 g).seen (chk2 g).ins g.ins = x := ⟨_, rfl⟩
     rw [hne] at HC7 ⊢
     have HEX := Lib.hid (HE.out.symm.trans (check_tail HNE.out HNA.out HND.out)).symm
     rw [hne] at HEX
     clear hne
     by_cases h0 : ne = 0
     ·
      subst h0
      rw [if_neg (by simp)] at HEX
      have HC8 := Lib.hid ((HC7.out rfl).below 8 (below_alloc _ (.cells #[.int .u8 xa, .int .i64 xb, .int .i64 xc] 147)))
      clear HC7 l0 l1 l2
      go_wp2_with fail
      generalize w7.alloc (.cells #[.int .u8 xa, .int .i64 xb, .int .i64 xc] 147) = W8 at *
      generalize ext o7 w7.heap.size 8 = q8 at *
      have y4 := HF8.out.gr.cell 4 _ rfl
      have y7 := HC8.out.cells.2.2.2.2.2.2.2
      have hlq : (portsN (chk2 g).seen g.ins).length + g.outs.length ≤ 1000000 := by have := seen2 g; simp [portsN]; omega
      refine wp_region_mid2 (fun w' => w'.cell? ⟨w.heap.size, 4, none⟩ = some (.slice a4 g.outs.length c4) ∧ w'.cell? ⟨w.heap.size + 3, 7, none⟩ = some vO) [0, 1, 2, 3, 4, 5, 6] 7 11 [8, 9, 10] [7] 2 (by kernel_rfl) (by kernel_rfl) rfl ⟨y4, y7⟩ ?_
      intro Q' hQ'
      simp only [pickOps, List.flatMap_cons, List.flatMap_nil, List.drop_succ_cons, List.drop_zero, List.take_succ_cons, List.take_zero, List.cons_append, List.nil_append, List.append_nil]
      repeat (first
       | (refine wpReads_skip (by rfl) ?_; (try simp only [Act.put, List.setIfInBounds_toArray, List.set_cons_zero, List.set_cons_succ]))
       | (refine wpReads_cons ?_ (by rfl) (by rfl) ?_ ?_; rotate_left; (intro wz hz; (try dsimp only at hz); go_simp; try with_reducible rfl); (try simp only [Act.put, List.setIfInBounds_toArray, List.set_cons_zero, List.set_cons_succ]))
       | (refine wpReads_any ?_ (by rfl) ?_ ?_; rotate_left; (intro wz; go_simp; try with_reducible rfl); (try simp only [Act.put, List.setIfInBounds_toArray, List.set_cons_zero, List.set_cons_succ])))
      refine wpReads_nil ?_
      refine ⟨?_, ?_⟩
      ·
       go_wp2_with fail
       refine (gports_out w _ _ (w.heap.size + 3) (w.heap.size + 2) ⟨g.name, .slice a1 g.actors.length c1, .slice a2 g.edges.length c2, .slice a3 g.ins.length c3, .slice a4 g.outs.length c4, vI, vO⟩ ⟨portsN (chk2 g).seen g.ins, portsS (chk2 g).ins g.ins, (chk2 g).outs⟩ _ g.outs 4 1 RO.out (HF8.out.kept.drewN 1) hlq HSO.out (HC8.out.drewN 1)).mono ?_
       rintro e w7 ⟨⟨xa, xb, xc, rfl⟩, o7, T, hC7⟩
       have T7 := ((Turn.refl _ ChkP _).drewN 1).trans T (fun _ h => h)
       have HF7 := Lib.hid (HF8.out.turn (T7.mono chkP_C))
       have HC7 := Lib.hid hC7
       have s3 := HF7.out.gr.cell 4 _ rfl
       have s6 := (HC8.out.kept67 T7 (by unfold ChkP; omega)).2
       clear T T7 hC7 HF8 HC8 y4 y7
       go_wp2
       refine ⟨⟨s3, s6⟩, ?_⟩
       repeat (first
        | (refine wpReads_skip (by rfl) ?_; (try simp only [Act.put, List.setIfInBounds_toArray, List.set_cons_zero, List.set_cons_succ]))
        | (refine wpReads_cons ?_ (by rfl) (by rfl) ?_ ?_; rotate_left; (intro wz hz; (try dsimp only at hz); go_simp; try with_reducible rfl); (try simp only [Act.put, List.setIfInBounds_toArray, List.set_cons_zero, List.set_cons_succ]))
        | (refine wpReads_any ?_ (by rfl) ?_ ?_; rotate_left; (intro wz; go_simp; try with_reducible rfl); (try simp only [Act.put, List.setIfInBounds_toArray, List.set_cons_zero, List.set_cons_succ])))
       refine wpReads_nil ?_
       refine wpAnyT_list (ks := [11, 12, 13]) (fun _ _ hx h => ⟨hx.cell h.1, hx.cell h.2⟩) (by kernel_rfl) ?_
       simp only [pickOps, List.flatMap_cons, List.flatMap_nil, List.drop_succ_cons, List.drop_zero, List.take_succ_cons, List.take_zero, List.cons_append, List.nil_append, List.append_nil]
       have HF8 := Lib.hid (HF7.out.below 8 (below_alloc _ (.cells #[.int .u8 xa, .int .i64 xb, .int .i64 xc] 147)))
       have hL := heap_alloc_new w7 (.cells #[.int .u8 xa, .int .i64 xb, .int .i64 xc] 147)
       have l0 := cells_row _ _ hL 0 _ rfl
       have l1 := cells_row _ _ hL 1 _ rfl
       have l2 := cells_row _ _ hL 2 _ rfl
       clear hL HF7 s3 s6
       obtain ⟨ne, hne⟩ : ∃ x, portsE (portsN (chk2 g).seen g.ins) (chk2 g).outs g.outs = x := ⟨_, rfl⟩
       rw [show portsE (Chk.seen ⟨portsN (chk2 g).seen g.ins, portsS (chk2 g).ins g.ins, (chk2 g).outs⟩) (Chk.outs ⟨portsN (chk2 g).seen g.ins, portsS (chk2 g).ins g.ins, (chk2 g).outs⟩) g.outs = ne from hne] at HC7 ⊢
       rw [hne] at HEX
       clear hne
       by_cases h0 : ne = 0
       ·
        subst h0
        have HC8 := Lib.hid ((HC7.out rfl).below 8 (below_alloc _ (.cells #[.int .u8 xa, .int .i64 xb, .int .i64 xc] 147)))
        clear HC7 l0 l1 l2
        go_wp2_with fail
        generalize w7.alloc (.cells #[.int .u8 xa, .int .i64 xb, .int .i64 xc] 147) = W8 at *
        generalize ext o7 w7.heap.size 8 = q8 at *
        rw [if_neg (by simp)] at HEX
        have hRI := actorsE_rows g.actors chk0 HNA.out (rowsLe_nil 16) (rowsLe_nil 16)
        have hRE := edgesC_rows g.edges (m := 16) (chk1 g) hRI.1 hRI.2
        have hR1 : RowsLe (portsS (chk2 g).ins g.ins) 16 := portsS_rows _ _ hRE.1
        have hR2 : RowsLe (portsS (chk2 g).outs g.outs) 16 := portsS_rows _ _ hRE.2
        have hl1 : (portsS (chk2 g).ins g.ins).length = g.actors.length := by rw [portsS_len, chk2, (edgesC_len _ _).1, chk1, (actorsC_rows _ _).1]; simp [chk0]
        have hl2 : (portsS (chk2 g).outs g.outs).length = g.actors.length := by rw [portsS_len, chk2, (edgesC_len _ _).2.1, chk1, (actorsC_rows _ _).2]; simp [chk0]
        refine (gopen_any _ _ (w.heap.size + 3) (w.heap.size + 2) _ _ a1 g.actors.length c1 rfl hl1 hl2 (by omega) (fun r => ⟨Nat.le_trans (hR1 r) (by omega), Nat.le_trans (hR2 r) (by omega)⟩) HC8.out).mono ?_
        rintro e w11 ⟨⟨xa, xb, xc, rfl⟩, o11, T, _⟩
        have HF11 := Lib.hid (HF8.out.turn T)
        have HSPR := Lib.hid HF11.out.sp
        have e : E = openE (portsS (chk2 g).ins g.ins) (portsS (chk2 g).outs g.outs) := HEX.out.symm
        clear T hRI hRE hR1 hR2 hl1 hl2
        subst e
        have z0 := HSPR.out.cell 0 _ rfl
        have z1 := HSPR.out.cell 1 _ rfl
        have z2 := HSPR.out.cell 2 _ rfl
        have f0 := HSPR.out.frozen 0
        have f1 := HSPR.out.frozen 1
        have f2 := HSPR.out.frozen 2
        go_wp2
        refine bodyPost_ret_by (results_tmp_row rfl _ _ _ _ _ _ _ rfl (spot_set HSPR.out) Tryz.underlying147 rfl (by kernel_rfl)) rfl ?_
        exact ⟨⟨_, _, _, rfl⟩, HF11.out.ret _ _ _⟩
       ·
        have e : E = ne := by rw [← HEX.out, if_pos h0]
        subst e
        go_wp2_with fail
        refine wp_region_lex (fun w' => w'.cell? ⟨w7.heap.size, 0, none⟩ = some (.int .u8 xa) ∧ w'.cell? ⟨w7.heap.size, 1, none⟩ = some (.int .i64 xb) ∧ w'.cell? ⟨w7.heap.size, 2, none⟩ = some (.int .i64 xc)) [0, 1, 2] [3] (by kernel_rfl) (by kernel_rfl) rfl (fun _ _ hx h => ⟨hx.cell h.1, hx.cell h.2.1, hx.cell h.2.2⟩) ⟨l0, l1, l2⟩ ?_
        intro Q' hQ'
        simp only [pickOps, List.flatMap_cons, List.flatMap_nil, List.drop_succ_cons, List.drop_zero, List.take_succ_cons, List.take_zero, List.cons_append, List.nil_append, List.append_nil]
        repeat (first
         | (refine wpReads_skip (by rfl) ?_; (try simp only [Act.put, List.setIfInBounds_toArray, List.set_cons_zero, List.set_cons_succ]))
         | (refine wpReads_cons ?_ (by rfl) (by rfl) ?_ ?_; rotate_left; (intro wz hz; (try dsimp only at hz); go_simp; try with_reducible rfl); (try simp only [Act.put, List.setIfInBounds_toArray, List.set_cons_zero, List.set_cons_succ]))
         | (refine wpReads_any ?_ (by rfl) ?_ ?_; rotate_left; (intro wz; go_simp; try with_reducible rfl); (try simp only [Act.put, List.setIfInBounds_toArray, List.set_cons_zero, List.set_cons_succ])))
        refine wpReads_nil ?_
        have HSPR := Lib.hid HF8.out.sp
        have z0 := HSPR.out.cell 0 _ rfl
        have z1 := HSPR.out.cell 1 _ rfl
        have z2 := HSPR.out.cell 2 _ rfl
        have f0 := HSPR.out.frozen 0
        have f1 := HSPR.out.frozen 1
        have f2 := HSPR.out.frozen 2
        go_wp2
        refine bodyPost_ret_by (results_tmp_row rfl _ _ _ _ _ _ _ rfl (spot_setd HSPR.out) Tryz.underlying147 rfl (by kernel_rfl)) rfl ?_
        exact ⟨⟨_, _, _, rfl⟩, below_dr (n := 1) (HF8.out.ret _ _ _)⟩
      ·
       go_wp2
       have hbL := below_alloc W8 (.cells #[.int .u8 0, .int .i64 0, .int .i64 0] 147)
       have HFb := Lib.hid (HF8.out.below 8 hbL)
       have HCb := Lib.hid (HC8.out.below 8 hbL)
       have HLb : Hid (Blk (W8.alloc (.cells #[.int .u8 0, .int .i64 0, .int .i64 0] 147)) (ext q8 W8.heap.size 8) 8 W8.heap.size 147 #[.int .u8 0, .int .i64 0, .int .i64 0]) := Lib.hid ⟨heap_alloc_new _ _, ext_new (Nat.le_refl _)⟩
       refine ⟨⟨ca y4, ca y7⟩, ?_⟩
       clear hbL HF8 HC8 y4 y7
       go_wp2_with fail
       refine (gports_out w _ _ (w.heap.size + 3) (w.heap.size + 2) ⟨g.name, .slice a1 g.actors.length c1, .slice a2 g.edges.length c2, .slice a3 g.ins.length c3, .slice a4 g.outs.length c4, vI, vO⟩ ⟨portsN (chk2 g).seen g.ins, portsS (chk2 g).ins g.ins, (chk2 g).outs⟩ _ g.outs 4 1 RO.out (HFb.out.kept.drewN 1) hlq HSO.out (HCb.out.drewN 1)).mono ?_
       rintro e w7 ⟨⟨xa, xb, xc, rfl⟩, o7, T, hC7⟩
       have T7 := ((Turn.refl _ ChkP _).drewN 1).trans T (fun _ h => h)
       have HF7 := Lib.hid (HFb.out.turn (T7.mono chkP_C))
       have HC7 := Lib.hid hC7
       have HL7 := Lib.hid (HLb.out.turn T7 (by unfold ChkP; omega))
       have s3 := HF7.out.gr.cell 4 _ rfl
       have s6 := (HCb.out.kept67 T7 (by unfold ChkP; omega)).2
       clear T T7 hC7 HFb HCb HLb
       go_wp2
       refine ⟨⟨s3, s6⟩, ?_⟩
       repeat (first
        | (refine wpReads_skip (by rfl) ?_; (try simp only [Act.put, List.setIfInBounds_toArray, List.set_cons_zero, List.set_cons_succ]))
        | (refine wpReads_cons ?_ (by rfl) (by rfl) ?_ ?_; rotate_left; (intro wz hz; (try dsimp only at hz); go_simp; try with_reducible rfl); (try simp only [Act.put, List.setIfInBounds_toArray, List.set_cons_zero, List.set_cons_succ]))
        | (refine wpReads_any ?_ (by rfl) ?_ ?_; rotate_left; (intro wz; go_simp; try with_reducible rfl); (try simp only [Act.put, List.setIfInBounds_toArray, List.set_cons_zero, List.set_cons_succ])))
       refine wpReads_nil ?_
       refine wpAnyT_list (ks := [12, 13]) (fun _ _ hx h => ⟨hx.cell h.1, hx.cell h.2⟩) (by kernel_rfl) ?_
       simp only [pickOps, List.flatMap_cons, List.flatMap_nil, List.drop_succ_cons, List.drop_zero, List.take_succ_cons, List.take_zero, List.cons_append, List.nil_append, List.append_nil]
       generalize W8.heap.size = L at *
       have TS := spot_turn HL7.out (.int .u8 xa) (.int .i64 xb) (.int .i64 xc)
       have HF8 := Lib.hid (HF7.out.turnC TS (by decide) (by decide))
       have hL := spot8_set (a := xa) (b := xb) (c := xc) HL7.out
       have l0 := cells_row _ _ hL 0 _ rfl
       have l1 := cells_row _ _ hL 1 _ rfl
       have l2 := cells_row _ _ hL 2 _ rfl
       have k0 := HL7.out.cell 0 _ rfl
       have k1 := HL7.out.cell 1 _ rfl
       have k2 := HL7.out.cell 2 _ rfl
       have kf0 := HL7.out.frozen 0
       have kf1 := HL7.out.frozen 1
       have kf2 := HL7.out.frozen 2
       have HTS := Lib.hid TS
       clear hL HF7 s3 s6 TS
       obtain ⟨ne, hne⟩ : ∃ x, portsE (portsN (chk2 g).seen g.ins) (chk2 g).outs g.outs = x := ⟨_, rfl⟩
       rw [show portsE (Chk.seen ⟨portsN (chk2 g).seen g.ins, portsS (chk2 g).ins g.ins, (chk2 g).outs⟩) (Chk.outs ⟨portsN (chk2 g).seen g.ins, portsS (chk2 g).ins g.ins, (chk2 g).outs⟩) g.outs = ne from hne] at HC7 ⊢
       rw [hne] at HEX
       clear hne
       by_cases h0 : ne = 0
       ·
        subst h0
        have HC8 := Lib.hid ((HC7.out rfl).turn HTS.out (fun x hx e => by subst e; unfold ChkC at hx; omega))
        clear HC7 l0 l1 l2 HTS HL7
        go_wp2_with fail
        clear k0 k1 k2 kf0 kf1 kf2
        generalize ((w7.setCell ⟨L, 0, none⟩ (.int .u8 xa)).setCell ⟨L, 1, none⟩ (.int .i64 xb)).setCell ⟨L, 2, none⟩ (.int .i64 xc) = W8 at *
        generalize ext o7 w7.heap.size 8 = q8 at *
        rw [if_neg (by simp)] at HEX
        have hRI := actorsE_rows g.actors chk0 HNA.out (rowsLe_nil 16) (rowsLe_nil 16)
        have hRE := edgesC_rows g.edges (m := 16) (chk1 g) hRI.1 hRI.2
        have hR1 : RowsLe (portsS (chk2 g).ins g.ins) 16 := portsS_rows _ _ hRE.1
        have hR2 : RowsLe (portsS (chk2 g).outs g.outs) 16 := portsS_rows _ _ hRE.2
        have hl1 : (portsS (chk2 g).ins g.ins).length = g.actors.length := by rw [portsS_len, chk2, (edgesC_len _ _).1, chk1, (actorsC_rows _ _).1]; simp [chk0]
        have hl2 : (portsS (chk2 g).outs g.outs).length = g.actors.length := by rw [portsS_len, chk2, (edgesC_len _ _).2.1, chk1, (actorsC_rows _ _).2]; simp [chk0]
        refine (gopen_any _ _ (w.heap.size + 3) (w.heap.size + 2) _ _ a1 g.actors.length c1 rfl hl1 hl2 (by omega) (fun r => ⟨Nat.le_trans (hR1 r) (by omega), Nat.le_trans (hR2 r) (by omega)⟩) HC8.out).mono ?_
        rintro e w11 ⟨⟨xa, xb, xc, rfl⟩, o11, T, _⟩
        have HF11 := Lib.hid (HF8.out.turn T)
        have HSPR := Lib.hid HF11.out.sp
        have e : E = openE (portsS (chk2 g).ins g.ins) (portsS (chk2 g).outs g.outs) := HEX.out.symm
        clear T hRI hRE hR1 hR2 hl1 hl2
        subst e
        have z0 := HSPR.out.cell 0 _ rfl
        have z1 := HSPR.out.cell 1 _ rfl
        have z2 := HSPR.out.cell 2 _ rfl
        have f0 := HSPR.out.frozen 0
        have f1 := HSPR.out.frozen 1
        have f2 := HSPR.out.frozen 2
        go_wp2
        refine bodyPost_ret_by (results_tmp_row rfl _ _ _ _ _ _ _ rfl (spot_set HSPR.out) Tryz.underlying147 rfl (by kernel_rfl)) rfl ?_
        exact ⟨⟨_, _, _, rfl⟩, HF11.out.ret _ _ _⟩
       ·
        have e : E = ne := by rw [← HEX.out, if_pos h0]
        subst e
        go_wp2_with fail
        refine wp_region_lex (fun w' => w'.cell? ⟨L, 0, none⟩ = some (.int .u8 xa) ∧ w'.cell? ⟨L, 1, none⟩ = some (.int .i64 xb) ∧ w'.cell? ⟨L, 2, none⟩ = some (.int .i64 xc)) [0, 1, 2] [3] (by kernel_rfl) (by kernel_rfl) rfl (fun _ _ hx h => ⟨hx.cell h.1, hx.cell h.2.1, hx.cell h.2.2⟩) ⟨l0, l1, l2⟩ ?_
        intro Q' hQ'
        simp only [pickOps, List.flatMap_cons, List.flatMap_nil, List.drop_succ_cons, List.drop_zero, List.take_succ_cons, List.take_zero, List.cons_append, List.nil_append, List.append_nil]
        repeat (first
         | (refine wpReads_skip (by rfl) ?_; (try simp only [Act.put, List.setIfInBounds_toArray, List.set_cons_zero, List.set_cons_succ]))
         | (refine wpReads_cons ?_ (by rfl) (by rfl) ?_ ?_; rotate_left; (intro wz hz; (try dsimp only at hz); go_simp; try with_reducible rfl); (try simp only [Act.put, List.setIfInBounds_toArray, List.set_cons_zero, List.set_cons_succ]))
         | (refine wpReads_any ?_ (by rfl) ?_ ?_; rotate_left; (intro wz; go_simp; try with_reducible rfl); (try simp only [Act.put, List.setIfInBounds_toArray, List.set_cons_zero, List.set_cons_succ])))
        refine wpReads_nil ?_
        have HSPR := Lib.hid HF8.out.sp
        have z0 := HSPR.out.cell 0 _ rfl
        have z1 := HSPR.out.cell 1 _ rfl
        have z2 := HSPR.out.cell 2 _ rfl
        have f0 := HSPR.out.frozen 0
        have f1 := HSPR.out.frozen 1
        have f2 := HSPR.out.frozen 2
        go_wp2
        refine bodyPost_ret_by (results_tmp_row rfl _ _ _ _ _ _ _ rfl (spot_setd HSPR.out) Tryz.underlying147 rfl (by kernel_rfl)) rfl ?_
        exact ⟨⟨_, _, _, rfl⟩, below_dr (n := 1) (HF8.out.ret _ _ _)⟩
     ·
      have e : E = ne := by rw [← HEX.out, if_pos h0]
      subst e
      go_wp2_with fail
      refine wp_region_lex (fun w' => w'.cell? ⟨w7.heap.size, 0, none⟩ = some (.int .u8 xa) ∧ w'.cell? ⟨w7.heap.size, 1, none⟩ = some (.int .i64 xb) ∧ w'.cell? ⟨w7.heap.size, 2, none⟩ = some (.int .i64 xc)) [0, 1, 2] [3] (by kernel_rfl) (by kernel_rfl) rfl (fun _ _ hx h => ⟨hx.cell h.1, hx.cell h.2.1, hx.cell h.2.2⟩) ⟨l0, l1, l2⟩ ?_
      intro Q' hQ'
      simp only [pickOps, List.flatMap_cons, List.flatMap_nil, List.drop_succ_cons, List.drop_zero, List.take_succ_cons, List.take_zero, List.cons_append, List.nil_append, List.append_nil]
      repeat (first
       | (refine wpReads_skip (by rfl) ?_; (try simp only [Act.put, List.setIfInBounds_toArray, List.set_cons_zero, List.set_cons_succ]))
       | (refine wpReads_cons ?_ (by rfl) (by rfl) ?_ ?_; rotate_left; (intro wz hz; (try dsimp only at hz); go_simp; try with_reducible rfl); (try simp only [Act.put, List.setIfInBounds_toArray, List.set_cons_zero, List.set_cons_succ]))
       | (refine wpReads_any ?_ (by rfl) ?_ ?_; rotate_left; (intro wz; go_simp; try with_reducible rfl); (try simp only [Act.put, List.setIfInBounds_toArray, List.set_cons_zero, List.set_cons_succ])))
      refine wpReads_nil ?_
      have HSPR := Lib.hid HF8.out.sp
      have z0 := HSPR.out.cell 0 _ rfl
      have z1 := HSPR.out.cell 1 _ rfl
      have z2 := HSPR.out.cell 2 _ rfl
      have f0 := HSPR.out.frozen 0
      have f1 := HSPR.out.frozen 1
      have f2 := HSPR.out.frozen 2
      go_wp2
      refine bodyPost_ret_by (results_tmp_row rfl _ _ _ _ _ _ _ rfl (spot_setd HSPR.out) Tryz.underlying147 rfl (by kernel_rfl)) rfl ?_
      exact ⟨⟨_, _, _, rfl⟩, below_dr (n := 1) (HF8.out.ret _ _ _)⟩
    ·
     go_wp2
     have hbL := below_alloc V (.cells #[.int .u8 0, .int .i64 0, .int .i64 0] 147)
     have HFb := Lib.hid (HF6.out.below 8 hbL)
     have HCb := Lib.hid (HC6.out.below 8 hbL)
     have HLb : Hid (Blk (V.alloc (.cells #[.int .u8 0, .int .i64 0, .int .i64 0] 147)) (ext q6 V.heap.size 8) 8 V.heap.size 147 #[.int .u8 0, .int .i64 0, .int .i64 0]) := Lib.hid ⟨heap_alloc_new _ _, ext_new (Nat.le_refl _)⟩
     refine ⟨⟨ca y3, ca y6⟩, ?_⟩
     clear hbL HF6 HC6 y3 y6
     go_wp2_with fail
     refine (gports_in w _ _ (w.heap.size + 3) (w.heap.size + 2) ⟨g.name, .slice a1 g.actors.length c1, .slice a2 g.edges.length c2, .slice a3 g.ins.length c3, .slice a4 g.outs.length c4, vI, vO⟩ (chk2 g) _ g.ins 3 2 RI.out (HFb.out.kept.drewN 1) hlp HSI.out (HCb.out.drewN 1)).mono ?_
     rintro e w7 ⟨⟨xa, xb, xc, rfl⟩, o7, T, hC7⟩
     have T7 := ((Turn.refl _ ChkP _).drewN 1).trans T (fun _ h => h)
     have HF7 := Lib.hid (HFb.out.turn (T7.mono chkP_C))
     have HC7 := Lib.hid hC7
     have HL7 := Lib.hid (HLb.out.turn T7 (by unfold ChkP; omega))
     have s3 := HF7.out.gr.cell 3 _ rfl
     have s6 := (HCb.out.kept67 T7 (by unfold ChkP; omega)).1
     clear T T7 hC7 HFb HCb HLb
     go_wp2
     refine ⟨⟨s3, s6⟩, ?_⟩
     repeat (first
      | (refine wpReads_skip (by rfl) ?_; (try simp only [Act.put, List.setIfInBounds_toArray, List.set_cons_zero, List.set_cons_succ]))
      | (refine wpReads_cons ?_ (by rfl) (by rfl) ?_ ?_; rotate_left; (intro wz hz; (try dsimp only at hz); go_simp; try with_reducible rfl); (try simp only [Act.put, List.setIfInBounds_toArray, List.set_cons_zero, List.set_cons_succ]))
      | (refine wpReads_any ?_ (by rfl) ?_ ?_; rotate_left; (intro wz; go_simp; try with_reducible rfl); (try simp only [Act.put, List.setIfInBounds_toArray, List.set_cons_zero, List.set_cons_succ])))
     refine wpReads_nil ?_
     refine wpAnyT_list (ks := [12, 13]) (fun _ _ hx h => ⟨hx.cell h.1, hx.cell h.2⟩) (by kernel_rfl) ?_
     simp only [pickOps, List.flatMap_cons, List.flatMap_nil, List.drop_succ_cons, List.drop_zero, List.take_succ_cons, List.take_zero, List.cons_append, List.nil_append, List.append_nil]
     generalize V.heap.size = L at *
     have TS := spot_turn HL7.out (.int .u8 xa) (.int .i64 xb) (.int .i64 xc)
     have HF8 := Lib.hid (HF7.out.turnC TS (by decide) (by decide))
     have hL := spot8_set (a := xa) (b := xb) (c := xc) HL7.out
     have l0 := cells_row _ _ hL 0 _ rfl
     have l1 := cells_row _ _ hL 1 _ rfl
     have l2 := cells_row _ _ hL 2 _ rfl
     have k0 := HL7.out.cell 0 _ rfl
     have k1 := HL7.out.cell 1 _ rfl
     have k2 := HL7.out.cell 2 _ rfl
     have kf0 := HL7.out.frozen 0
     have kf1 := HL7.out.frozen 1
     have kf2 := HL7.out.frozen 2
     have HTS := Lib.hid TS
     clear hL HF7 s3 s6 TS
     obtain ⟨ne, hne⟩ : ∃ x, portsE (chk2 g).seen (chk2 g).ins g.ins = x := ⟨_, rfl⟩
     rw [hne] at HC7 ⊢
     have HEX := Lib.hid (HE.out.symm.trans (check_tail HNE.out HNA.out HND.out)).symm
     rw [hne] at HEX
     clear hne
     by_cases h0 : ne = 0
     ·
      subst h0
      rw [if_neg (by simp)] at HEX
      have HC8 := Lib.hid ((HC7.out rfl).turn HTS.out (fun x hx e => by subst e; unfold ChkC at hx; omega))
      clear HC7 l0 l1 l2 HTS HL7
      go_wp2_with fail
      clear k0 k1 k2 kf0 kf1 kf2
      generalize ((w7.setCell ⟨L, 0, none⟩ (.int .u8 xa)).setCell ⟨L, 1, none⟩ (.int .i64 xb)).setCell ⟨L, 2, none⟩ (.int .i64 xc) = W8 at *
      generalize ext o7 w7.heap.size 8 = q8 at *
      have y4 := HF8.out.gr.cell 4 _ rfl
      have y7 := HC8.out.cells.2.2.2.2.2.2.2
      have hlq : (portsN (chk2 g).seen g.ins).length + g.outs.length ≤ 1000000 := by have := seen2 g; simp [portsN]; omega
      refine wp_region_mid2 (fun w' => w'.cell? ⟨w.heap.size, 4, none⟩ = some (.slice a4 g.outs.length c4) ∧ w'.cell? ⟨w.heap.size + 3, 7, none⟩ = some vO) [0, 1, 2, 3, 4, 5, 6] 7 11 [8, 9, 10] [7] 2 (by kernel_rfl) (by kernel_rfl) rfl ⟨y4, y7⟩ ?_
      intro Q' hQ'
      simp only [pickOps, List.flatMap_cons, List.flatMap_nil, List.drop_succ_cons, List.drop_zero, List.take_succ_cons, List.take_zero, List.cons_append, List.nil_append, List.append_nil]
      repeat (first
       | (refine wpReads_skip (by rfl) ?_; (try simp only [Act.put, List.setIfInBounds_toArray, List.set_cons_zero, List.set_cons_succ]))
       | (refine wpReads_cons ?_ (by rfl) (by rfl) ?_ ?_; rotate_left; (intro wz hz; (try dsimp only at hz); go_simp; try with_reducible rfl); (try simp only [Act.put, List.setIfInBounds_toArray, List.set_cons_zero, List.set_cons_succ]))
       | (refine wpReads_any ?_ (by rfl) ?_ ?_; rotate_left; (intro wz; go_simp; try with_reducible rfl); (try simp only [Act.put, List.setIfInBounds_toArray, List.set_cons_zero, List.set_cons_succ])))
      refine wpReads_nil ?_
      refine ⟨?_, ?_⟩
      ·
       go_wp2_with fail
       refine (gports_out w _ _ (w.heap.size + 3) (w.heap.size + 2) ⟨g.name, .slice a1 g.actors.length c1, .slice a2 g.edges.length c2, .slice a3 g.ins.length c3, .slice a4 g.outs.length c4, vI, vO⟩ ⟨portsN (chk2 g).seen g.ins, portsS (chk2 g).ins g.ins, (chk2 g).outs⟩ _ g.outs 4 1 RO.out (HF8.out.kept.drewN 1) hlq HSO.out (HC8.out.drewN 1)).mono ?_
       rintro e w7 ⟨⟨xa, xb, xc, rfl⟩, o7, T, hC7⟩
       have T7 := ((Turn.refl _ ChkP _).drewN 1).trans T (fun _ h => h)
       have HF7 := Lib.hid (HF8.out.turn (T7.mono chkP_C))
       have HC7 := Lib.hid hC7
       have s3 := HF7.out.gr.cell 4 _ rfl
       have s6 := (HC8.out.kept67 T7 (by unfold ChkP; omega)).2
       clear T T7 hC7 HF8 HC8 y4 y7
       go_wp2
       refine ⟨⟨s3, s6⟩, ?_⟩
       repeat (first
        | (refine wpReads_skip (by rfl) ?_; (try simp only [Act.put, List.setIfInBounds_toArray, List.set_cons_zero, List.set_cons_succ]))
        | (refine wpReads_cons ?_ (by rfl) (by rfl) ?_ ?_; rotate_left; (intro wz hz; (try dsimp only at hz); go_simp; try with_reducible rfl); (try simp only [Act.put, List.setIfInBounds_toArray, List.set_cons_zero, List.set_cons_succ]))
        | (refine wpReads_any ?_ (by rfl) ?_ ?_; rotate_left; (intro wz; go_simp; try with_reducible rfl); (try simp only [Act.put, List.setIfInBounds_toArray, List.set_cons_zero, List.set_cons_succ])))
       refine wpReads_nil ?_
       refine wpAnyT_list (ks := [11, 12, 13]) (fun _ _ hx h => ⟨hx.cell h.1, hx.cell h.2⟩) (by kernel_rfl) ?_
       simp only [pickOps, List.flatMap_cons, List.flatMap_nil, List.drop_succ_cons, List.drop_zero, List.take_succ_cons, List.take_zero, List.cons_append, List.nil_append, List.append_nil]
       have HF8 := Lib.hid (HF7.out.below 8 (below_alloc _ (.cells #[.int .u8 xa, .int .i64 xb, .int .i64 xc] 147)))
       have hL := heap_alloc_new w7 (.cells #[.int .u8 xa, .int .i64 xb, .int .i64 xc] 147)
       have l0 := cells_row _ _ hL 0 _ rfl
       have l1 := cells_row _ _ hL 1 _ rfl
       have l2 := cells_row _ _ hL 2 _ rfl
       clear hL HF7 s3 s6
       obtain ⟨ne, hne⟩ : ∃ x, portsE (portsN (chk2 g).seen g.ins) (chk2 g).outs g.outs = x := ⟨_, rfl⟩
       rw [show portsE (Chk.seen ⟨portsN (chk2 g).seen g.ins, portsS (chk2 g).ins g.ins, (chk2 g).outs⟩) (Chk.outs ⟨portsN (chk2 g).seen g.ins, portsS (chk2 g).ins g.ins, (chk2 g).outs⟩) g.outs = ne from hne] at HC7 ⊢
       rw [hne] at HEX
       clear hne
       by_cases h0 : ne = 0
       ·
        subst h0
        have HC8 := Lib.hid ((HC7.out rfl).below 8 (below_alloc _ (.cells #[.int .u8 xa, .int .i64 xb, .int .i64 xc] 147)))
        clear HC7 l0 l1 l2
        go_wp2_with fail
        generalize w7.alloc (.cells #[.int .u8 xa, .int .i64 xb, .int .i64 xc] 147) = W8 at *
        generalize ext o7 w7.heap.size 8 = q8 at *
        rw [if_neg (by simp)] at HEX
        have hRI := actorsE_rows g.actors chk0 HNA.out (rowsLe_nil 16) (rowsLe_nil 16)
        have hRE := edgesC_rows g.edges (m := 16) (chk1 g) hRI.1 hRI.2
        have hR1 : RowsLe (portsS (chk2 g).ins g.ins) 16 := portsS_rows _ _ hRE.1
        have hR2 : RowsLe (portsS (chk2 g).outs g.outs) 16 := portsS_rows _ _ hRE.2
        have hl1 : (portsS (chk2 g).ins g.ins).length = g.actors.length := by rw [portsS_len, chk2, (edgesC_len _ _).1, chk1, (actorsC_rows _ _).1]; simp [chk0]
        have hl2 : (portsS (chk2 g).outs g.outs).length = g.actors.length := by rw [portsS_len, chk2, (edgesC_len _ _).2.1, chk1, (actorsC_rows _ _).2]; simp [chk0]
        refine (gopen_any _ _ (w.heap.size + 3) (w.heap.size + 2) _ _ a1 g.actors.length c1 rfl hl1 hl2 (by omega) (fun r => ⟨Nat.le_trans (hR1 r) (by omega), Nat.le_trans (hR2 r) (by omega)⟩) HC8.out).mono ?_
        rintro e w11 ⟨⟨xa, xb, xc, rfl⟩, o11, T, _⟩
        have HF11 := Lib.hid (HF8.out.turn T)
        have HSPR := Lib.hid HF11.out.sp
        have e : E = openE (portsS (chk2 g).ins g.ins) (portsS (chk2 g).outs g.outs) := HEX.out.symm
        clear T hRI hRE hR1 hR2 hl1 hl2
        subst e
        have z0 := HSPR.out.cell 0 _ rfl
        have z1 := HSPR.out.cell 1 _ rfl
        have z2 := HSPR.out.cell 2 _ rfl
        have f0 := HSPR.out.frozen 0
        have f1 := HSPR.out.frozen 1
        have f2 := HSPR.out.frozen 2
        go_wp2
        refine bodyPost_ret_by (results_tmp_row rfl _ _ _ _ _ _ _ rfl (spot_set HSPR.out) Tryz.underlying147 rfl (by kernel_rfl)) rfl ?_
        exact ⟨⟨_, _, _, rfl⟩, HF11.out.ret _ _ _⟩
       ·
        have e : E = ne := by rw [← HEX.out, if_pos h0]
        subst e
        go_wp2_with fail
        refine wp_region_lex (fun w' => w'.cell? ⟨w7.heap.size, 0, none⟩ = some (.int .u8 xa) ∧ w'.cell? ⟨w7.heap.size, 1, none⟩ = some (.int .i64 xb) ∧ w'.cell? ⟨w7.heap.size, 2, none⟩ = some (.int .i64 xc)) [0, 1, 2] [3] (by kernel_rfl) (by kernel_rfl) rfl (fun _ _ hx h => ⟨hx.cell h.1, hx.cell h.2.1, hx.cell h.2.2⟩) ⟨l0, l1, l2⟩ ?_
        intro Q' hQ'
        simp only [pickOps, List.flatMap_cons, List.flatMap_nil, List.drop_succ_cons, List.drop_zero, List.take_succ_cons, List.take_zero, List.cons_append, List.nil_append, List.append_nil]
        repeat (first
         | (refine wpReads_skip (by rfl) ?_; (try simp only [Act.put, List.setIfInBounds_toArray, List.set_cons_zero, List.set_cons_succ]))
         | (refine wpReads_cons ?_ (by rfl) (by rfl) ?_ ?_; rotate_left; (intro wz hz; (try dsimp only at hz); go_simp; try with_reducible rfl); (try simp only [Act.put, List.setIfInBounds_toArray, List.set_cons_zero, List.set_cons_succ]))
         | (refine wpReads_any ?_ (by rfl) ?_ ?_; rotate_left; (intro wz; go_simp; try with_reducible rfl); (try simp only [Act.put, List.setIfInBounds_toArray, List.set_cons_zero, List.set_cons_succ])))
        refine wpReads_nil ?_
        have HSPR := Lib.hid HF8.out.sp
        have z0 := HSPR.out.cell 0 _ rfl
        have z1 := HSPR.out.cell 1 _ rfl
        have z2 := HSPR.out.cell 2 _ rfl
        have f0 := HSPR.out.frozen 0
        have f1 := HSPR.out.frozen 1
        have f2 := HSPR.out.frozen 2
        go_wp2
        refine bodyPost_ret_by (results_tmp_row rfl _ _ _ _ _ _ _ rfl (spot_setd HSPR.out) Tryz.underlying147 rfl (by kernel_rfl)) rfl ?_
        exact ⟨⟨_, _, _, rfl⟩, below_dr (n := 1) (HF8.out.ret _ _ _)⟩
      ·
       go_wp2
       have hbL := below_alloc W8 (.cells #[.int .u8 0, .int .i64 0, .int .i64 0] 147)
       have HFb := Lib.hid (HF8.out.below 8 hbL)
       have HCb := Lib.hid (HC8.out.below 8 hbL)
       have HLb : Hid (Blk (W8.alloc (.cells #[.int .u8 0, .int .i64 0, .int .i64 0] 147)) (ext q8 W8.heap.size 8) 8 W8.heap.size 147 #[.int .u8 0, .int .i64 0, .int .i64 0]) := Lib.hid ⟨heap_alloc_new _ _, ext_new (Nat.le_refl _)⟩
       refine ⟨⟨ca y4, ca y7⟩, ?_⟩
       clear hbL HF8 HC8 y4 y7
       go_wp2_with fail
       refine (gports_out w _ _ (w.heap.size + 3) (w.heap.size + 2) ⟨g.name, .slice a1 g.actors.length c1, .slice a2 g.edges.length c2, .slice a3 g.ins.length c3, .slice a4 g.outs.length c4, vI, vO⟩ ⟨portsN (chk2 g).seen g.ins, portsS (chk2 g).ins g.ins, (chk2 g).outs⟩ _ g.outs 4 1 RO.out (HFb.out.kept.drewN 1) hlq HSO.out (HCb.out.drewN 1)).mono ?_
       rintro e w7 ⟨⟨xa, xb, xc, rfl⟩, o7, T, hC7⟩
       have T7 := ((Turn.refl _ ChkP _).drewN 1).trans T (fun _ h => h)
       have HF7 := Lib.hid (HFb.out.turn (T7.mono chkP_C))
       have HC7 := Lib.hid hC7
       have HL7 := Lib.hid (HLb.out.turn T7 (by unfold ChkP; omega))
       have s3 := HF7.out.gr.cell 4 _ rfl
       have s6 := (HCb.out.kept67 T7 (by unfold ChkP; omega)).2
       clear T T7 hC7 HFb HCb HLb
       go_wp2
       refine ⟨⟨s3, s6⟩, ?_⟩
       repeat (first
        | (refine wpReads_skip (by rfl) ?_; (try simp only [Act.put, List.setIfInBounds_toArray, List.set_cons_zero, List.set_cons_succ]))
        | (refine wpReads_cons ?_ (by rfl) (by rfl) ?_ ?_; rotate_left; (intro wz hz; (try dsimp only at hz); go_simp; try with_reducible rfl); (try simp only [Act.put, List.setIfInBounds_toArray, List.set_cons_zero, List.set_cons_succ]))
        | (refine wpReads_any ?_ (by rfl) ?_ ?_; rotate_left; (intro wz; go_simp; try with_reducible rfl); (try simp only [Act.put, List.setIfInBounds_toArray, List.set_cons_zero, List.set_cons_succ])))
       refine wpReads_nil ?_
       refine wpAnyT_list (ks := [12, 13]) (fun _ _ hx h => ⟨hx.cell h.1, hx.cell h.2⟩) (by kernel_rfl) ?_
       simp only [pickOps, List.flatMap_cons, List.flatMap_nil, List.drop_succ_cons, List.drop_zero, List.take_succ_cons, List.take_zero, List.cons_append, List.nil_append, List.append_nil]
       generalize W8.heap.size = L at *
       have TS := spot_turn HL7.out (.int .u8 xa) (.int .i64 xb) (.int .i64 xc)
       have HF8 := Lib.hid (HF7.out.turnC TS (by decide) (by decide))
       have hL := spot8_set (a := xa) (b := xb) (c := xc) HL7.out
       have l0 := cells_row _ _ hL 0 _ rfl
       have l1 := cells_row _ _ hL 1 _ rfl
       have l2 := cells_row _ _ hL 2 _ rfl
       have k0 := HL7.out.cell 0 _ rfl
       have k1 := HL7.out.cell 1 _ rfl
       have k2 := HL7.out.cell 2 _ rfl
       have kf0 := HL7.out.frozen 0
       have kf1 := HL7.out.frozen 1
       have kf2 := HL7.out.frozen 2
       have HTS := Lib.hid TS
       clear hL HF7 s3 s6 TS
       obtain ⟨ne, hne⟩ : ∃ x, portsE (portsN (chk2 g).seen g.ins) (chk2 g).outs g.outs = x := ⟨_, rfl⟩
       rw [show portsE (Chk.seen ⟨portsN (chk2 g).seen g.ins, portsS (chk2 g).ins g.ins, (chk2 g).outs⟩) (Chk.outs ⟨portsN (chk2 g).seen g.ins, portsS (chk2 g).ins g.ins, (chk2 g).outs⟩) g.outs = ne from hne] at HC7 ⊢
       rw [hne] at HEX
       clear hne
       by_cases h0 : ne = 0
       ·
        subst h0
        have HC8 := Lib.hid ((HC7.out rfl).turn HTS.out (fun x hx e => by subst e; unfold ChkC at hx; omega))
        clear HC7 l0 l1 l2 HTS HL7
        go_wp2_with fail
        clear k0 k1 k2 kf0 kf1 kf2
        generalize ((w7.setCell ⟨L, 0, none⟩ (.int .u8 xa)).setCell ⟨L, 1, none⟩ (.int .i64 xb)).setCell ⟨L, 2, none⟩ (.int .i64 xc) = W8 at *
        generalize ext o7 w7.heap.size 8 = q8 at *
        rw [if_neg (by simp)] at HEX
        have hRI := actorsE_rows g.actors chk0 HNA.out (rowsLe_nil 16) (rowsLe_nil 16)
        have hRE := edgesC_rows g.edges (m := 16) (chk1 g) hRI.1 hRI.2
        have hR1 : RowsLe (portsS (chk2 g).ins g.ins) 16 := portsS_rows _ _ hRE.1
        have hR2 : RowsLe (portsS (chk2 g).outs g.outs) 16 := portsS_rows _ _ hRE.2
        have hl1 : (portsS (chk2 g).ins g.ins).length = g.actors.length := by rw [portsS_len, chk2, (edgesC_len _ _).1, chk1, (actorsC_rows _ _).1]; simp [chk0]
        have hl2 : (portsS (chk2 g).outs g.outs).length = g.actors.length := by rw [portsS_len, chk2, (edgesC_len _ _).2.1, chk1, (actorsC_rows _ _).2]; simp [chk0]
        refine (gopen_any _ _ (w.heap.size + 3) (w.heap.size + 2) _ _ a1 g.actors.length c1 rfl hl1 hl2 (by omega) (fun r => ⟨Nat.le_trans (hR1 r) (by omega), Nat.le_trans (hR2 r) (by omega)⟩) HC8.out).mono ?_
        rintro e w11 ⟨⟨xa, xb, xc, rfl⟩, o11, T, _⟩
        have HF11 := Lib.hid (HF8.out.turn T)
        have HSPR := Lib.hid HF11.out.sp
        have e : E = openE (portsS (chk2 g).ins g.ins) (portsS (chk2 g).outs g.outs) := HEX.out.symm
        clear T hRI hRE hR1 hR2 hl1 hl2
        subst e
        have z0 := HSPR.out.cell 0 _ rfl
        have z1 := HSPR.out.cell 1 _ rfl
        have z2 := HSPR.out.cell 2 _ rfl
        have f0 := HSPR.out.frozen 0
        have f1 := HSPR.out.frozen 1
        have f2 := HSPR.out.frozen 2
        go_wp2
        refine bodyPost_ret_by (results_tmp_row rfl _ _ _ _ _ _ _ rfl (spot_set HSPR.out) Tryz.underlying147 rfl (by kernel_rfl)) rfl ?_
        exact ⟨⟨_, _, _, rfl⟩, HF11.out.ret _ _ _⟩
       ·
        have e : E = ne := by rw [← HEX.out, if_pos h0]
        subst e
        go_wp2_with fail
        refine wp_region_lex (fun w' => w'.cell? ⟨L, 0, none⟩ = some (.int .u8 xa) ∧ w'.cell? ⟨L, 1, none⟩ = some (.int .i64 xb) ∧ w'.cell? ⟨L, 2, none⟩ = some (.int .i64 xc)) [0, 1, 2] [3] (by kernel_rfl) (by kernel_rfl) rfl (fun _ _ hx h => ⟨hx.cell h.1, hx.cell h.2.1, hx.cell h.2.2⟩) ⟨l0, l1, l2⟩ ?_
        intro Q' hQ'
        simp only [pickOps, List.flatMap_cons, List.flatMap_nil, List.drop_succ_cons, List.drop_zero, List.take_succ_cons, List.take_zero, List.cons_append, List.nil_append, List.append_nil]
        repeat (first
         | (refine wpReads_skip (by rfl) ?_; (try simp only [Act.put, List.setIfInBounds_toArray, List.set_cons_zero, List.set_cons_succ]))
         | (refine wpReads_cons ?_ (by rfl) (by rfl) ?_ ?_; rotate_left; (intro wz hz; (try dsimp only at hz); go_simp; try with_reducible rfl); (try simp only [Act.put, List.setIfInBounds_toArray, List.set_cons_zero, List.set_cons_succ]))
         | (refine wpReads_any ?_ (by rfl) ?_ ?_; rotate_left; (intro wz; go_simp; try with_reducible rfl); (try simp only [Act.put, List.setIfInBounds_toArray, List.set_cons_zero, List.set_cons_succ])))
        refine wpReads_nil ?_
        have HSPR := Lib.hid HF8.out.sp
        have z0 := HSPR.out.cell 0 _ rfl
        have z1 := HSPR.out.cell 1 _ rfl
        have z2 := HSPR.out.cell 2 _ rfl
        have f0 := HSPR.out.frozen 0
        have f1 := HSPR.out.frozen 1
        have f2 := HSPR.out.frozen 2
        go_wp2
        refine bodyPost_ret_by (results_tmp_row rfl _ _ _ _ _ _ _ rfl (spot_setd HSPR.out) Tryz.underlying147 rfl (by kernel_rfl)) rfl ?_
        exact ⟨⟨_, _, _, rfl⟩, below_dr (n := 1) (HF8.out.ret _ _ _)⟩
     ·
      have e : E = ne := by rw [← HEX.out, if_pos h0]
      subst e
      go_wp2_with fail
      refine wp_region_lex (fun w' => w'.cell? ⟨L, 0, none⟩ = some (.int .u8 xa) ∧ w'.cell? ⟨L, 1, none⟩ = some (.int .i64 xb) ∧ w'.cell? ⟨L, 2, none⟩ = some (.int .i64 xc)) [0, 1, 2] [3] (by kernel_rfl) (by kernel_rfl) rfl (fun _ _ hx h => ⟨hx.cell h.1, hx.cell h.2.1, hx.cell h.2.2⟩) ⟨l0, l1, l2⟩ ?_
      intro Q' hQ'
      simp only [pickOps, List.flatMap_cons, List.flatMap_nil, List.drop_succ_cons, List.drop_zero, List.take_succ_cons, List.take_zero, List.cons_append, List.nil_append, List.append_nil]
      repeat (first
       | (refine wpReads_skip (by rfl) ?_; (try simp only [Act.put, List.setIfInBounds_toArray, List.set_cons_zero, List.set_cons_succ]))
       | (refine wpReads_cons ?_ (by rfl) (by rfl) ?_ ?_; rotate_left; (intro wz hz; (try dsimp only at hz); go_simp; try with_reducible rfl); (try simp only [Act.put, List.setIfInBounds_toArray, List.set_cons_zero, List.set_cons_succ]))
       | (refine wpReads_any ?_ (by rfl) ?_ ?_; rotate_left; (intro wz; go_simp; try with_reducible rfl); (try simp only [Act.put, List.setIfInBounds_toArray, List.set_cons_zero, List.set_cons_succ])))
      refine wpReads_nil ?_
      have HSPR := Lib.hid HF8.out.sp
      have z0 := HSPR.out.cell 0 _ rfl
      have z1 := HSPR.out.cell 1 _ rfl
      have z2 := HSPR.out.cell 2 _ rfl
      have f0 := HSPR.out.frozen 0
      have f1 := HSPR.out.frozen 1
      have f2 := HSPR.out.frozen 2
      go_wp2
      refine bodyPost_ret_by (results_tmp_row rfl _ _ _ _ _ _ _ rfl (spot_setd HSPR.out) Tryz.underlying147 rfl (by kernel_rfl)) rfl ?_
      exact ⟨⟨_, _, _, rfl⟩, below_dr (n := 1) (HF8.out.ret _ _ _)⟩
   ·
    have e : E = ne := by rw [← HE.out, checkE, HNE.out, if_neg (by simp), HNA.out, if_neg (by simp), HND.out, if_pos h0]
    subst e
    go_wp2_with fail
    refine wp_region_lex (fun w' => w'.cell? ⟨w5.heap.size, 0, none⟩ = some (.int .u8 xa) ∧ w'.cell? ⟨w5.heap.size, 1, none⟩ = some (.int .i64 xb) ∧ w'.cell? ⟨w5.heap.size, 2, none⟩ = some (.int .i64 xc)) [0, 1, 2] [3] (by kernel_rfl) (by kernel_rfl) rfl (fun _ _ hx h => ⟨hx.cell h.1, hx.cell h.2.1, hx.cell h.2.2⟩) ⟨l0, l1, l2⟩ ?_
    intro Q' hQ'
    simp only [pickOps, List.flatMap_cons, List.flatMap_nil, List.drop_succ_cons, List.drop_zero, List.take_succ_cons, List.take_zero, List.cons_append, List.nil_append, List.append_nil]
    repeat (first
     | (refine wpReads_skip (by rfl) ?_; (try simp only [Act.put, List.setIfInBounds_toArray, List.set_cons_zero, List.set_cons_succ]))
     | (refine wpReads_cons ?_ (by rfl) (by rfl) ?_ ?_; rotate_left; (intro wz hz; (try dsimp only at hz); go_simp; try with_reducible rfl); (try simp only [Act.put, List.setIfInBounds_toArray, List.set_cons_zero, List.set_cons_succ]))
     | (refine wpReads_any ?_ (by rfl) ?_ ?_; rotate_left; (intro wz; go_simp; try with_reducible rfl); (try simp only [Act.put, List.setIfInBounds_toArray, List.set_cons_zero, List.set_cons_succ])))
    refine wpReads_nil ?_
    have HSPR := Lib.hid HF6.out.sp
    have z0 := HSPR.out.cell 0 _ rfl
    have z1 := HSPR.out.cell 1 _ rfl
    have z2 := HSPR.out.cell 2 _ rfl
    have f0 := HSPR.out.frozen 0
    have f1 := HSPR.out.frozen 1
    have f2 := HSPR.out.frozen 2
    go_wp2
    refine bodyPost_ret_by (results_tmp_row rfl _ _ _ _ _ _ _ rfl (spot_setd HSPR.out) Tryz.underlying147 rfl (by kernel_rfl)) rfl ?_
    exact ⟨⟨_, _, _, rfl⟩, below_dr (n := 1) (HF6.out.ret _ _ _)⟩
  ·
   have e : E = ne := by rw [← HE.out, checkE, HNE.out, if_neg (by simp), HNA.out, if_pos h0]
   subst e
   go_wp2_with fail
   refine wp_region_lex (fun w' => w'.cell? ⟨w3.heap.size, 0, none⟩ = some (.int .u8 xa) ∧ w'.cell? ⟨w3.heap.size, 1, none⟩ = some (.int .i64 xb) ∧ w'.cell? ⟨w3.heap.size, 2, none⟩ = some (.int .i64 xc)) [0, 1, 2] [3] (by kernel_rfl) (by kernel_rfl) rfl (fun _ _ hx h => ⟨hx.cell h.1, hx.cell h.2.1, hx.cell h.2.2⟩) ⟨l0, l1, l2⟩ ?_
   intro Q' hQ'
   simp only [pickOps, List.flatMap_cons, List.flatMap_nil, List.drop_succ_cons, List.drop_zero, List.take_succ_cons, List.take_zero, List.cons_append, List.nil_append, List.append_nil]
   repeat (first
    | (refine wpReads_skip (by rfl) ?_; (try simp only [Act.put, List.setIfInBounds_toArray, List.set_cons_zero, List.set_cons_succ]))
    | (refine wpReads_cons ?_ (by rfl) (by rfl) ?_ ?_; rotate_left; (intro wz hz; (try dsimp only at hz); go_simp; try with_reducible rfl); (try simp only [Act.put, List.setIfInBounds_toArray, List.set_cons_zero, List.set_cons_succ]))
    | (refine wpReads_any ?_ (by rfl) ?_ ?_; rotate_left; (intro wz; go_simp; try with_reducible rfl); (try simp only [Act.put, List.setIfInBounds_toArray, List.set_cons_zero, List.set_cons_succ])))
   refine wpReads_nil ?_
   have HSPR := Lib.hid HF4.out.sp
   have z0 := HSPR.out.cell 0 _ rfl
   have z1 := HSPR.out.cell 1 _ rfl
   have z2 := HSPR.out.cell 2 _ rfl
   have f0 := HSPR.out.frozen 0
   have f1 := HSPR.out.frozen 1
   have f2 := HSPR.out.frozen 2
   go_wp2
   refine bodyPost_ret_by (results_tmp_row rfl _ _ _ _ _ _ _ rfl (spot_setd HSPR.out) Tryz.underlying147 rfl (by kernel_rfl)) rfl ?_
   exact ⟨⟨_, _, _, rfl⟩, below_dr (n := 1) (HF4.out.ret _ _ _)⟩
 ·
  have e : E = ne := by rw [← HE.out, checkE, HNE.out, if_pos h0]
  subst e
  go_wp2_with fail
  refine wp_region_lex (fun w' => w'.cell? ⟨w1.heap.size, 0, none⟩ = some (.int .u8 xa) ∧ w'.cell? ⟨w1.heap.size, 1, none⟩ = some (.int .i64 xb) ∧ w'.cell? ⟨w1.heap.size, 2, none⟩ = some (.int .i64 xc)) [0, 1, 2] [3] (by kernel_rfl) (by kernel_rfl) rfl (fun _ _ hx h => ⟨hx.cell h.1, hx.cell h.2.1, hx.cell h.2.2⟩) ⟨l0, l1, l2⟩ ?_
  intro Q' hQ'
  simp only [pickOps, List.flatMap_cons, List.flatMap_nil, List.drop_succ_cons, List.drop_zero, List.take_succ_cons, List.take_zero, List.cons_append, List.nil_append, List.append_nil]
  repeat (first
   | (refine wpReads_skip (by rfl) ?_; (try simp only [Act.put, List.setIfInBounds_toArray, List.set_cons_zero, List.set_cons_succ]))
   | (refine wpReads_cons ?_ (by rfl) (by rfl) ?_ ?_; rotate_left; (intro wz hz; (try dsimp only at hz); go_simp; try with_reducible rfl); (try simp only [Act.put, List.setIfInBounds_toArray, List.set_cons_zero, List.set_cons_succ]))
   | (refine wpReads_any ?_ (by rfl) ?_ ?_; rotate_left; (intro wz; go_simp; try with_reducible rfl); (try simp only [Act.put, List.setIfInBounds_toArray, List.set_cons_zero, List.set_cons_succ])))
  refine wpReads_nil ?_
  have HSPR := Lib.hid HF2.out.sp
  have z0 := HSPR.out.cell 0 _ rfl
  have z1 := HSPR.out.cell 1 _ rfl
  have z2 := HSPR.out.cell 2 _ rfl
  have f0 := HSPR.out.frozen 0
  have f1 := HSPR.out.frozen 1
  have f2 := HSPR.out.frozen 2
  go_wp2
  refine bodyPost_ret_by (results_tmp_row rfl _ _ _ _ _ _ _ rfl (spot_setd HSPR.out) Tryz.underlying147 rfl (by kernel_rfl)) rfl ?_
  exact ⟨⟨_, _, _, rfl⟩, below_dr (n := 1) (HF2.out.ret _ _ _)⟩
end Go.Proofs.YtaholpfikcdhbaaGreat

/- graph.Check. -/
namespace Go.Proofs.YtaholpfikcdhbaaGreat
open Go.RowKit
def GSized (g : GGraph) : Prop := g.name.size ≤ 4611686018427387904 ∧ (∀ p ∈ g.actors, p.name.size ≤ 4611686018427387904 ∧ p.params.length ≤ 17600000000000) ∧ (∀ p ∈ g.ins, p.name.size ≤ 4611686018427387904) ∧ ∀ p ∈ g.outs, p.name.size ≤ 4611686018427387904
set_option maxRecDepth 100000 in
theorem gcheck_any (w : World) (v : Value) (g : GGraph) (h : HasGraph w v g) (hs : GSized g) : Calls Tryz.prog 42 #[v] w (Tells (.int .i64 (checkE g)) w) := by
 obtain ⟨va, ve, vi, vo, rfl, _⟩ := h.shape
 have hbG := below_alloc w (.cells #[.string g.name, va, ve, vi, vo] 26)
 have hG := heap_alloc_new w (.cells #[.string g.name, va, ve, vi, vo] 26)
 have q0 := cells_row _ _ hG 0 _ rfl
 have q1 := cells_row _ _ hG 1 _ rfl
 have q2 := cells_row _ _ hG 2 _ rfl
 have q3 := cells_row _ _ hG 3 _ rfl
 have q4 := cells_row _ _ hG 4 _ rfl
 have HG := Lib.hid (h.below hbG)
 have HB := Lib.hid hbG
 have HS := Lib.hid hs
 obtain ⟨E, hE⟩ : ∃ E, checkE g = E := ⟨_, rfl⟩
 rw [hE]
 have HE := Lib.hid hE
 clear h hs hbG hG hE
 go_enter Tryz.func42, Tryz.ntmps42
 go_wp2_with fail
 refine (gfind_any _ _ g HG.out HS.out.1 HS.out.2.1 HS.out.2.2.1 HS.out.2.2.2).mono ?_
 rintro e w1 ⟨⟨a, b, c, rfl⟩, hb1⟩
 rw [HE.out]
 have hb : Below w.heap.size w w1 := HB.out.trans (hb1.mono HB.out.size)
 have HBB := Lib.hid (hb.alloc hb.size (.cells #[.int .u8 a, .int .i64 b, .int .i64 c] 147))
 clear hb hb1 q0 q1 q2 q3 q4
 go_wp2
 go_ret
 exact ⟨rfl, HBB.out⟩
end Go.Proofs.YtaholpfikcdhbaaGreat

/- dyn's New: what it calls, what it makes. -/
namespace Go.Proofs.YtaholpfikcdhbaaGreat
open Go.RowKit
theorem head_few {g : GGraph} (h : headE g = 0) : g.actors.length ≤ 32 ∧ g.edges.length ≤ 96 ∧ g.ins.length ≤ 16 ∧ g.outs.length ≤ 16 := by
 unfold headE at h
 split at h
 ·
  cases h
 split at h
 ·
  cases h
 split at h
 ·
  cases h
 split at h
 ·
  cases h
 split at h
 ·
  cases h
 split at h
 ·
  cases h
 omega
theorem rated_col {w w' : World} {is os : List Int} {e : Ending} (o : Col) (M : Nat) (h : Rated w is os e w') : ∃ vi vo o', e = .returned (.tuple #[vi, vo]) ∧ Turn o o' (fun _ => False) w w' ∧ Own w' o' (M + 3) 3 1 vi is.length (ivs is) ∧ Own w' o' (M + 4) 3 1 vo os.length (ivs os) := by
 obtain ⟨g1, c1, g2, c2, rfl, h1, h2, hne, hb⟩ := h
 have l1 := (h1.lt g1 rfl).1
 have l2 := (h2.lt g2 rfl).1
 refine ⟨_, _, fun k => if k = g1 then M + 3 else if k < w.heap.size then o k else M + 4, rfl, ⟨Mods.of_below hb _, fun k hk => ?_⟩, ⟨owns_base h1 (fun _ _ => Nat.zero_le _), fun k hk => ?_⟩, ⟨owns_base h2 (fun _ _ => Nat.zero_le _), fun k hk => ?_⟩⟩
 ·
  show (if k = g1 then M + 3 else if k < w.heap.size then o k else M + 4) = o k
  rw [if_neg (by omega), if_pos hk]
 ·
  cases hk
  show (if g1 = g1 then M + 3 else if g1 < w.heap.size then o g1 else M + 4) = M + 3
  rw [if_pos rfl]
 ·
  cases hk
  show (if g2 = g1 then M + 3 else if g2 < w.heap.size then o g2 else M + 4) = M + 4
  rw [if_neg (Ne.symm hne), if_neg (by omega)]
theorem info_source : (Tryz.prog.info? 116).map (fun i => (i.zero, i.size, i.bytes)) = some (some .nilIface, 1, 16) := by kernel_rfl
theorem info_sink : (Tryz.prog.info? 114).map (fun i => (i.zero, i.size, i.bytes)) = some (some .nilIface, 1, 16) := by kernel_rfl
theorem info_ptask : (Tryz.prog.info? 92).map (fun i => (i.zero, i.size, i.bytes)) = some (some (.pointer none), 1, 8) := by kernel_rfl
theorem info_chan : (Tryz.prog.info? 112).map (fun i => (i.zero, i.size, i.bytes)) = some (some (.agg #[.pointer none]), 1, 8) := by kernel_rfl
theorem info_ptape : (Tryz.prog.info? 119).map (fun i => (i.zero, i.size, i.bytes)) = some (some (.pointer none), 1, 8) := by kernel_rfl
theorem made_nils (n : Nat) : madeCells (Value.cells .nilIface) (n * 1) = (List.replicate n Value.nilIface).toArray := by
 rw [← Array.toList_inj, Nat.mul_one]
 simp [madeCells, Value.cells, Nat.mod_one, List.map_const']
theorem mk_srcs (n : Nat) (hn : n ≤ 100000) (w : World) : (Instr.makeSlice 100 (.int .i64 (n : Int)) (.int .i64 (n : Int))).run Tryz.prog w = .ok (.slice (some ⟨w.heap.size, 0, none⟩) n n) (w.alloc (.cells (List.replicate n Value.nilIface).toArray 116)) := by
 obtain ⟨i0, hi, hz0, hz1, hz2⟩ := info_parts info_source
 have h := run_make (P := Tryz.prog) (w := w) 100 116 i0 _ Tryz.underlying100 hi hz0 .i64 .i64 n n (by omega) (Int.le_refl _) (by rw [hz2]; omega) (by omega)
 rw [h, Int.toNat_natCast, hz1, made_nils]
theorem mk_snks (n : Nat) (hn : n ≤ 100000) (w : World) : (Instr.makeSlice 101 (.int .i64 (n : Int)) (.int .i64 (n : Int))).run Tryz.prog w = .ok (.slice (some ⟨w.heap.size, 0, none⟩) n n) (w.alloc (.cells (List.replicate n Value.nilIface).toArray 114)) := by
 obtain ⟨i0, hi, hz0, hz1, hz2⟩ := info_parts info_sink
 have h := run_make (P := Tryz.prog) (w := w) 101 114 i0 _ Tryz.underlying101 hi hz0 .i64 .i64 n n (by omega) (Int.le_refl _) (by rw [hz2]; omega) (by omega)
 rw [h, Int.toNat_natCast, hz1, made_nils]
theorem blk_new {w : World} (q : Col) (c : Nat) (cs : Array Value) (t : TypeId) : Blk (w.alloc (.cells cs t)) (ext q w.heap.size c) c w.heap.size t cs := ⟨heap_alloc_new w _, ext_new (Nat.le_refl _)⟩
def Began (w : World) (o : Col) (M b n : Nat) (bd sv dv iv ov : Value) (e : Ending) (w' : World) : Prop := ∃ o' h, e = .returned (.tuple #[]) ∧ Turn o o' (fun c => c = M) w w' ∧ Blk w' o' M b 103 #[bd, sv, dv, iv, ov, .slice (some ⟨h, 0, none⟩) n n, .slice none 0 0, .int .i64 0, .bool false, .int .i64 0] ∧ Blk w' o' (M + 7) h 27 (List.replicate n (.slice none 0 0)).toArray
set_option maxRecDepth 100000 in
set_option maxHeartbeats 1000000 in
theorem tbegin_new {w : World} {o : Col} {M b n ic : Nat} {ia : Option Addr} {bd sv dv ov : Value} (h : Blk w o M b 103 #[bd, sv, dv, .slice ia n ic, ov, .slice none 0 0, .slice none 0 0, .int .i64 0, .bool false, .int .i64 0]) (hn : n ≤ 16) : Calls Tryz.prog 45 #[.pointer (some ⟨b, 0, none⟩)] w (Began w o M b n bd sv dv (.slice ia n ic) ov) := by
 have hmk := mk_rows n (by omega) w
 obtain ⟨zi, hzi⟩ : ∃ x, (List.replicate n (Value.slice none 0 0)).toArray = x := ⟨_, rfl⟩
 rw [hzi] at hmk
 have HZI := Lib.hid hzi
 have c3 := h.cell 3 _ rfl
 have hba := below_alloc w (.cells zi 27)
 have T1 := Turn.of_below o (M + 7) hba
 have hb1 := h.turn T1 (fun h => h)
 have c5 := hb1.cell 5 _ rfl
 have c6 := hb1.cell 6 _ rfl
 have c7 := hb1.cell 7 _ rfl
 have c8 := hb1.cell 8 _ rfl
 have f5 := hb1.frozen 5
 have f6 := hb1.frozen 6
 have f7 := hb1.frozen 7
 have f8 := hb1.frozen 8
 have HB1 := Lib.hid hb1
 have HT1 := Lib.hid T1
 clear h hba T1 hb1 hzi hn
 go_enter Tryz.func45, Tryz.ntmps45
 go_wp2
 go_end0
 have hzi := HZI.out
 have T1 := HT1.out
 have B0 := HB1.out
 obtain ⟨B1, S1⟩ := B0.set 5 (.slice (some ⟨w.heap.size, 0, none⟩) n n)
 obtain ⟨B2, S2⟩ := B1.set 6 (.slice none 0 0)
 obtain ⟨B3, S3⟩ := B2.set 7 (.int .i64 0)
 obtain ⟨B4, S4⟩ := B3.set 8 (.bool false)
 have S := ((S1.trans S2 (fun _ h => h)).trans S3 (fun _ h => h)).trans S4 (fun _ h => h)
 have TT := (T1.mono (D := fun x => x = M) (fun _ h => h.elim)).trans S (fun _ h => h)
 have N0 : Blk (w.alloc (.cells zi 27)) (ext o w.heap.size (M + 7)) (M + 7) w.heap.size 27 zi := ⟨heap_alloc_new w _, ext_new (Nat.le_refl _)⟩
 have N1 := N0.turn S (fun h => by omega)
 refine ⟨_, w.heap.size, rfl, TT, B4, ?_⟩
 rw [hzi]
 exact N1
theorem own_app {w w' : World} {o : Col} {c : Nat} {e : TypeId} {size n m : Nat} {v v' : Value} {xs ys : List Value} (h : Own w o c e size v n xs) (h1 : w'.ownsRow 0 e size v' m ys) (h2 : w.grownBy w' v.ownBlock) (h3 : v'.ownBlock = v.ownBlock ∨ v'.ownBlock = some w.heap.size) : Turn o (ext o w.heap.size c) (fun x => x = c) w w' ∧ Own w' (ext o w.heap.size c) c e size v' m ys := by
 refine ⟨Turn.of_mods o c ((Mods.refl (fun k => v.ownBlock = some k) w).grown h2 (fun k hk _ => hk)) (fun k _ hk => h.2 k hk), h1, fun k hk => ?_⟩
 rcases h3 with h3 | h3
 ·
  rw [h3] at hk
  exact (ext_old (h.1.lt k hk).2).trans (h.2 k hk)
 ·
  rw [h3] at hk
  have := Option.some.inj hk
  exact ext_new (by omega)
theorem queue_col {w w' : World} {b : Nat} {C : Int} {l : List Int} {r : Option Nat} {N : Nat} (o : Col) (c : Nat) (hb : Below w.heap.size w w') (h : IQ w' w.heap.size b C l r N) (hN : N ≤ 256) : Turn o (ext o w.heap.size c) (fun _ => False) w w' ∧ QAt w' (ext o w.heap.size c) c b C l 256 := by
 obtain ⟨v, g, zs, h1, h2, h3, h4, h5, h6, h7, h8, h9, h10, h11⟩ := h
 refine ⟨Turn.of_below o c hb, r, ⟨v, g, zs, h1, owns_base h2 (fun _ _ => Nat.zero_le _), h3, h4, h5, h6, by omega, h8, h9, Nat.zero_le _, h11⟩, ext_new h10, fun k hk => ext_new ?_⟩
 rw [← h5] at hk
 exact (h2.lt k hk).1
theorem Kept.ext {B : Nat} {o : Col} {w0 w w' : World} (h : Kept B o w0 w) (c : Nat) (hb : Below w.heap.size w w') : Kept B (ext o w.heap.size c) w0 w' := h.turn (Turn.of_below o c hb) (fun h => h)
theorem half_new {w : World} {o : Col} {M b h gs gd bp : Nat} {g : GGraph} {t : Nat} {vi vo : Value} {qs : Ptrs} (a : GActor) (ha : g.actors[t]? = some a) (hA : Act w o (M + 1) (M + 2) bp a.tag a.params (keep0 a.tag a.params) 0)
  (hB : Blk w o M b 103 #[.pointer (some ⟨bp, 0, none⟩), .slice (some ⟨gs, 0, none⟩) (ratesI g t).length (ratesI g t).length, .slice (some ⟨gd, 0, none⟩) (ratesO g t).length (ratesO g t).length, vi, vo, .slice (some ⟨h, 0, none⟩) (ratesI g t).length (ratesI g t).length, .slice none 0 0, .int .i64 0, .bool false, .int .i64 0])
  (hI : Own w o (M + 3) 3 1 vi (ratesI g t).length (ivs (ratesI g t))) (hO : Own w o (M + 4) 3 1 vo (ratesO g t).length (ivs (ratesO g t)))
  (hS : Blk w o (M + 5) gs 116 (List.replicate (ratesI g t).length Value.nilIface).toArray) (hD : Blk w o (M + 6) gd 114 (List.replicate (ratesO g t).length Value.nilIface).toArray) (hH : Blk w o (M + 7) h 27 (List.replicate (ratesI g t).length (.slice none 0 0)).toArray) (hi : (ratesI g t).length ≤ 16) (ho : (ratesO g t).length ≤ 16) :
  HalfT w o M b g t (newTask g t) ⟨bp, .slice (some ⟨gs, 0, none⟩) (ratesI g t).length (ratesI g t).length, .slice (some ⟨gd, 0, none⟩) (ratesO g t).length (ratesO g t).length, vi, vo, h, List.replicate (ratesI g t).length (.slice none 0 0), .slice none 0 0, []⟩ (fromS qs g t 0) (toS qs g t 0) := by
 have hk : keepT g t = keep0 a.tag a.params := by unfold keepT; rw [ha]
 refine ⟨hB, fun a' ha' => ?_, hI.vals, hO.vals, ⟨gs, rfl, by rw [fromS_zero]; exact hS⟩, ⟨gd, rfl, by rw [toS_zero]; exact hD⟩, fromS_len _ _ _ _, toS_len _ _ _ _, ⟨by simp [newTask], hH, fun k hk2 => ?_⟩, .inl ⟨rfl, rfl⟩, ⟨hi, ho, by simp [newTask]; exact hi, by simp [newTask]⟩⟩
 ·
  rw [ha] at ha'
  cases ha'
  show Act w o (M + 1) (M + 2) bp a.tag a.params (keepT g t) 0
  rw [hk]
  exact hA
 ·
  have e1 : (newTask g t).hand[k] = [] := by simp [newTask]
  rw [e1]
  simp only [List.getElem_replicate]
  exact OffRow.nil _ _ _ _
def Ported (q : Col) (w : World) (M tb nI nO : Nat) (bd vi vo : Value) (wx : World) : Prop := ∃ q' gs gd, Turn q q' (fun c => c = M) w wx ∧ Blk wx q' M tb 103 #[bd, .slice (some ⟨gs, 0, none⟩) nI nI, .slice (some ⟨gd, 0, none⟩) nO nO, vi, vo, .slice none 0 0, .slice none 0 0, .int .i64 0, .bool false, .int .i64 0] ∧
 Blk wx q' (M + 5) gs 116 (List.replicate nI Value.nilIface).toArray ∧ Blk wx q' (M + 6) gd 114 (List.replicate nO Value.nilIface).toArray
section
variable {q : Col} {w wd : World} {M tb nI nO : Nat} {bd vi vo : Value} {zi zo : Array Value}
theorem ported_a (T : Turn q q (fun c => c = M) w wd) (B : Blk wd q M tb 103 #[bd, .slice none 0 0, .slice none 0 0, vi, vo, .slice none 0 0, .slice none 0 0, .int .i64 0, .bool false, .int .i64 0]) (hi : (List.replicate nI Value.nilIface).toArray = zi) (ho : (List.replicate nO Value.nilIface).toArray = zo) :
  Ported q w M tb nI nO bd vi vo ((((wd.alloc (.cells zi 116)).alloc (.cells zo 114)).setCell ⟨tb, 1, none⟩ (.slice (some ⟨wd.heap.size, 0, none⟩) nI nI)).setCell ⟨tb, 2, none⟩ (.slice (some ⟨wd.heap.size + 1, 0, none⟩) nO nO)) := by
 have T1 := Turn.of_below q (M + 5) (below_alloc wd (.cells zi 116))
 have N1 := blk_new (w := wd) q (M + 5) zi 116
 have B1 := B.turn T1 (fun h => h)
 have T2 := Turn.of_below (ext q wd.heap.size (M + 5)) (M + 6) (below_alloc (wd.alloc (.cells zi 116)) (.cells zo 114))
 have N2 := blk_new (w := wd.alloc (.cells zi 116)) (ext q wd.heap.size (M + 5)) (M + 6) zo 114
 have M1 := N1.turn T2 (fun h => h)
 have B2 := B1.turn T2 (fun h => h)
 obtain ⟨B3, S3⟩ := B2.set 1 (.slice (some ⟨wd.heap.size, 0, none⟩) nI nI)
 obtain ⟨B4, S4⟩ := B3.set 2 (.slice (some ⟨wd.heap.size + 1, 0, none⟩) nO nO)
 have S := S3.trans S4 (fun _ h => h)
 refine ⟨_, wd.heap.size, wd.heap.size + 1, ((T.trans (T1.mono (D := fun c => c = M) (fun _ h => h.elim)) (fun _ h => h)).trans (T2.mono (D := fun c => c = M) (fun _ h => h.elim)) (fun _ h => h)).trans S (fun _ h => h), B4, ?_, ?_⟩
 ·
  rw [hi]; exact M1.turn S (fun h => by omega)
 ·
  rw [ho]; have := N2.turn S (fun h => by omega); simpa using this
theorem ported_b (T : Turn q q (fun c => c = M) w wd) (B : Blk wd q M tb 103 #[bd, .slice none 0 0, .slice none 0 0, vi, vo, .slice none 0 0, .slice none 0 0, .int .i64 0, .bool false, .int .i64 0]) (hi : (List.replicate nI Value.nilIface).toArray = zi) (ho : (List.replicate nO Value.nilIface).toArray = zo) :
  Ported q w M tb nI nO bd vi vo ((((wd.alloc (.cells zi 116)).setCell ⟨tb, 1, none⟩ (.slice (some ⟨wd.heap.size, 0, none⟩) nI nI)).alloc (.cells zo 114)).setCell ⟨tb, 2, none⟩ (.slice (some ⟨wd.heap.size + 1, 0, none⟩) nO nO)) := by
 have T1 := Turn.of_below q (M + 5) (below_alloc wd (.cells zi 116))
 have N1 := blk_new (w := wd) q (M + 5) zi 116
 have B1 := B.turn T1 (fun h => h)
 obtain ⟨B3, S3⟩ := B1.set 1 (.slice (some ⟨wd.heap.size, 0, none⟩) nI nI)
 have T2 := Turn.of_below (ext q wd.heap.size (M + 5)) (M + 6) (below_alloc ((wd.alloc (.cells zi 116)).setCell ⟨tb, 1, none⟩ (.slice (some ⟨wd.heap.size, 0, none⟩) nI nI)) (.cells zo 114))
 have N2 := blk_new (w := (wd.alloc (.cells zi 116)).setCell ⟨tb, 1, none⟩ (.slice (some ⟨wd.heap.size, 0, none⟩) nI nI)) (ext q wd.heap.size (M + 5)) (M + 6) zo 114
 have M1 := (N1.turn S3 (fun h => by omega)).turn T2 (fun h => h)
 have B2 := B3.turn T2 (fun h => h)
 obtain ⟨B4, S4⟩ := B2.set 2 (.slice (some ⟨wd.heap.size + 1, 0, none⟩) nO nO)
 refine ⟨_, wd.heap.size, wd.heap.size + 1, ((((T.trans (T1.mono (D := fun c => c = M) (fun _ h => h.elim)) (fun _ h => h)).trans S3 (fun _ h => h))).trans (T2.mono (D := fun c => c = M) (fun _ h => h.elim)) (fun _ h => h)).trans S4 (fun _ h => h), B4, ?_, ?_⟩
 ·
  rw [hi]; exact M1.turn S4 (fun h => by omega)
 ·
  rw [ho]; have := N2.turn S4 (fun h => by omega); simpa [World.setCell] using this
theorem ported_c (T : Turn q q (fun c => c = M) w wd) (B : Blk wd q M tb 103 #[bd, .slice none 0 0, .slice none 0 0, vi, vo, .slice none 0 0, .slice none 0 0, .int .i64 0, .bool false, .int .i64 0]) (hi : (List.replicate nI Value.nilIface).toArray = zi) (ho : (List.replicate nO Value.nilIface).toArray = zo) :
  Ported q w M tb nI nO bd vi vo ((((wd.alloc (.cells zo 114)).alloc (.cells zi 116)).setCell ⟨tb, 1, none⟩ (.slice (some ⟨wd.heap.size + 1, 0, none⟩) nI nI)).setCell ⟨tb, 2, none⟩ (.slice (some ⟨wd.heap.size, 0, none⟩) nO nO)) := by
 have T1 := Turn.of_below q (M + 6) (below_alloc wd (.cells zo 114))
 have N1 := blk_new (w := wd) q (M + 6) zo 114
 have B1 := B.turn T1 (fun h => h)
 have T2 := Turn.of_below (ext q wd.heap.size (M + 6)) (M + 5) (below_alloc (wd.alloc (.cells zo 114)) (.cells zi 116))
 have N2 := blk_new (w := wd.alloc (.cells zo 114)) (ext q wd.heap.size (M + 6)) (M + 5) zi 116
 have M1 := N1.turn T2 (fun h => h)
 have B2 := B1.turn T2 (fun h => h)
 obtain ⟨B3, S3⟩ := B2.set 1 (.slice (some ⟨wd.heap.size + 1, 0, none⟩) nI nI)
 obtain ⟨B4, S4⟩ := B3.set 2 (.slice (some ⟨wd.heap.size, 0, none⟩) nO nO)
 have S := S3.trans S4 (fun _ h => h)
 refine ⟨_, wd.heap.size + 1, wd.heap.size, ((T.trans (T1.mono (D := fun c => c = M) (fun _ h => h.elim)) (fun _ h => h)).trans (T2.mono (D := fun c => c = M) (fun _ h => h.elim)) (fun _ h => h)).trans S (fun _ h => h), B4, ?_, ?_⟩
 ·
  rw [hi]; have := N2.turn S (fun h => by omega); simpa using this
 ·
  rw [ho]; exact M1.turn S (fun h => by omega)
end
end Go.Proofs.YtaholpfikcdhbaaGreat
