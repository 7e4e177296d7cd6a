/- The checker's ports: inputs, or outputs. -/
import Derived.Test.YtbmbfifempkhgaaGName
import Derived.Test.YtbmbfifempkhgaaGTake
namespace Go.Proofs.Ytbmbfifempkhgaa
open Go.RowKit

def SpotRet (E : Int) (e : Ending) : Prop := ∃ a b c : Int, e = .returned (.tuple #[.int .i64 E, .agg #[.int .u8 a, .int .i64 b, .int .i64 c]])
/-- what a method of the checker answers -/
def ChkRet (w : World) (o : Col) (C B : Nat) (X : ChkV) (E : Int) (k : Chk) (e : Ending) (w' : World) : Prop := SpotRet E e ∧ ∃ o', Turn o o' ChkC w w' ∧ (E = 0 → ChkAt w' o' C B X k)

/-- the colours of what 'ports' turns -/
def ChkP (x : Nat) : Prop := x = 2 ∨ x = 4 ∨ x = 6
def ChkRetP (w : World) (o : Col) (C B : Nat) (X : ChkV) (E : Int) (k : Chk) (e : Ending) (w' : World) : Prop := SpotRet E e ∧ ∃ o', Turn o o' ChkP w w' ∧ (E = 0 → ChkAt w' o' C B X k)

/-- what is turned later lies in blocks that are new -/
theorem Turn.late {o o1 : Col} {C : Nat → Prop} {w w1 w2 : World} (h : Turn o o1 C w w1) (c : Nat) (m : Mods (fun k => w.heap.size ≤ k) w1 w2) : Turn o (ext o1 w1.heap.size c) C w w2 := by
  refine ⟨h.mods.trans m (fun _ _ h => h) (fun n hn f => by omega), fun k hk => ?_⟩
  rw [ext_old (Nat.lt_of_lt_of_le hk h.size)]
  exact h.same k hk
/-- the result's block, where nothing else lies -/
theorem spot_set {w : World} {o : Col} {R : Nat} {a b c : Int} (h : Blk w o 7 R 140 #[.int .u8 0, .int .i64 0, .int .i64 0]) :
    (((w.setCell ⟨R, 0, none⟩ (.int .u8 a)).setCell ⟨R, 1, none⟩ (.int .i64 b)).setCell ⟨R, 2, none⟩ (.int .i64 c)).heap[R]? = some (.cells #[.int .u8 a, .int .i64 b, .int .i64 c] 140 (0, 0)) :=
  block_setCell (block_setCell (block_setCell h.1 0 (.int .u8 a)) 1 (.int .i64 b)) 2 (.int .i64 c)
theorem spot_mods {w : World} {N R : Nat} (h : N ≤ R) (a b c : Value) : Mods (fun k => N ≤ k) w (((w.setCell ⟨R, 0, none⟩ a).setCell ⟨R, 1, none⟩ b).setCell ⟨R, 2, none⟩ c) :=
  (((Mods.refl _ w).setCell (p := ⟨R, 0, none⟩) (fun _ => h) a).setCell (p := ⟨R, 1, none⟩) (fun _ => h) b).setCell (p := ⟨R, 2, none⟩) (fun _ => h) c

theorem spot_only (w : World) (R : Nat) (a b c : Value) : Mods (fun k => k = R) w (((w.setCell ⟨R, 0, none⟩ a).setCell ⟨R, 1, none⟩ b).setCell ⟨R, 2, none⟩ c) :=
  (((Mods.refl (fun k => k = R) w).setCell (p := ⟨R, 0, none⟩) (fun _ => rfl) a).setCell (p := ⟨R, 1, none⟩) (fun _ => rfl) b).setCell (p := ⟨R, 2, none⟩) (fun _ => rfl) c
theorem ChkAt.spot {w : World} {q : Col} {C B R : Nat} {X : ChkV} {k : Chk} {t : TypeId} {cs : Array Value} (h : ChkAt w q C B X k) (hR : Blk w q 7 R t cs) (a b c : Value) : ChkAt (((w.setCell ⟨R, 0, none⟩ a).setCell ⟨R, 1, none⟩ b).setCell ⟨R, 2, none⟩ c) (ext q w.heap.size 7) C B X k :=
  h.turn (Turn.of_mods (C := fun x => x = 7) q 7 (spot_only w R a b c) (fun b _ e => by subst e; exact hR.2)) (fun x hx e => by subst e; exact absurd hx (by unfold ChkC; omega))
theorem portsE_cons {seen : List ByteArray} {side : List (List Bool)} {l : List GPort} {j : Nat} (h : j < l.length) : portsE seen side (l.drop j) = if portE seen side l[j] ≠ 0 then portE seen side l[j] else portsE (seen ++ [l[j].name]) (takeS side l[j].actor l[j].port) (l.drop (j + 1)) := by
  rw [List.drop_eq_getElem_cons h, portsE]
theorem portsS_snoc {side : List (List Bool)} {l : List GPort} {j : Nat} (h : j < l.length) : portsS side (l.take (j + 1)) = takeS (portsS side (l.take j)) l[j].actor l[j].port := by
  rw [List.take_succ_eq_append_getElem h, portsS, List.foldl_append]; rfl
theorem portsN_snoc {seen : List ByteArray} {l : List GPort} {j : Nat} (h : j < l.length) : portsN seen (l.take (j + 1)) = portsN seen (l.take j) ++ [l[j].name] := by
  rw [List.take_succ_eq_append_getElem h, portsN, portsN, List.map_append, List.append_assoc]; rfl
theorem spot_new (w : World) (o : Col) (c : Nat) : Blk (w.alloc (.cells #[.int .u8 0, .int .i64 0, .int .i64 0] 140)) (ext o w.heap.size c) c w.heap.size 140 #[.int .u8 0, .int .i64 0, .int .i64 0] := ⟨heap_alloc_new w _, ext_new (Nat.le_refl _)⟩

theorem port_split {seen : List ByteArray} {side : List (List Bool)} {p : GPort} {r : Int} : (if portE seen side p ≠ 0 then portE seen side p else r) = if nameE seen p.name ≠ 0 then nameE seen p.name else if takeE side p.actor p.port ≠ 0 then takeE side p.actor p.port else r := by
  unfold portE
  by_cases h : nameE seen p.name = 0
  · simp [h]
  · simp [h]
theorem portsN_len {seen : List ByteArray} {l : List GPort} {j : Nat} (hj : j ≤ l.length) (h : seen.length + l.length ≤ 1000000) : (portsN seen (l.take j)).length ≤ 1000000 := by
  simp [portsN]; omega

set_option maxRecDepth 100000 in
set_option maxHeartbeats 2000000 in
theorem gports_in (w0 w : World) (o : Col) (C B : Nat) (X : ChkV) (k : Chk) (v : Value) (l : List GPort) (kd en : Int) (hv : Recs w0 3 PortR v l) (K : Kept w0.heap.size o w0 w) (hn : k.seen.length + l.length ≤ 1000000) (hs : ∀ p ∈ l, p.name.size ≤ 4611686018427387904) (h : ChkAt w o C B X k) :
    Calls Try.prog 99 #[.pointer (some ⟨C, 0, none⟩), v, X.vI, .int .u8 kd, .int .i64 en] w (ChkRetP w o C B X (portsE k.seen k.ins l) ⟨portsN k.seen l, portsS k.ins l, k.outs⟩) := by
  obtain ⟨ao, cap, rfl⟩ := hv.slice
  obtain ⟨E, hE⟩ : ∃ E, portsE k.seen k.ins l = E := ⟨_, rfl⟩
  rw [hE]
  have HE := Lib.hid (show portsE (portsN k.seen (l.take 0)) (portsS k.ins (l.take 0)) (l.drop 0) = E by simpa [portsN, portsS] using hE)
  have HV := Lib.hid hv
  have HN := Lib.hid hn
  have HSZ := Lib.hid hs
  have hbR := below_alloc w (.cells #[.int .u8 0, .int .i64 0, .int .i64 0] 140)
  have HT0 := Lib.hid ((Turn.of_below o 7 hbR).mono (D := ChkP) (fun _ h => h.elim))
  have HK0 := Lib.hid (K.of_below 7 hbR)
  have HC0 : Hid (ChkAt _ _ C B X ⟨portsN k.seen (l.take 0), portsS k.ins (l.take 0), k.outs⟩) := Lib.hid (by simpa [portsN, portsS] using h.below 7 hbR)
  have HR0 := Lib.hid (spot_new w o 7)
  clear hE hv hn hs K h hbR
  go_enter Try.func99, Try.ntmps99
  go_wp2_with fail
  obtain ⟨R, hR⟩ : ∃ R, w.heap.size = R := ⟨_, rfl⟩
  have HRE := Lib.hid hR
  rw [hR] at HR0 HT0 HK0 HC0 ⊢
  clear hR
  go_loopw [18] (fun i wr => ∃ (j : Nat) (q : Col), j ≤ l.length ∧ i = .int .i64 j ∧ Kept w0.heap.size q w0 wr ∧ Turn o q ChkP w wr ∧ Blk wr q 7 R 140 #[.int .u8 0, .int .i64 0, .int .i64 0] ∧ ChkAt wr q C B X ⟨portsN k.seen (l.take j), portsS k.ins (l.take j), k.outs⟩ ∧ portsE (portsN k.seen (l.take j)) (portsS k.ins (l.take j)) (l.drop j) = E) (fun i _ => l.length - (intOf i).toNat)
  case atStart => exact ⟨0, _, Nat.zero_le _, rfl, HK0.out, HT0.out, HR0.out, HC0.out, HE.out⟩
  case round =>
    clear HK0 HT0 HR0 HC0 HE
    obtain ⟨j, q, hj, rfl, hK, hT, hR, hC, hE⟩ := hrel
    have HK := Lib.hid hK
    have HT := Lib.hid hT
    have HR := Lib.hid hR
    have HC := Lib.hid hC
    have HE := Lib.hid hE
    clear hK hT hR hC hE
    by_cases hlt : j < l.length
    · have hlti : (j : Int) < l.length := by omega
      obtain ⟨b0, off, rfl, hcap, hb0, hrec⟩ := (HV.out.below port_steady HK.out.below).at (by omega)
      obtain ⟨cs, hcs, hPR, hcl⟩ := hrec j hlt
      obtain rfl := hPR
      have c0 := hcl 0 (by omega)
      have c1 := hcl 1 (by omega)
      have c2 := hcl 2 (by omega)
      simp at c0 c1 c2
      have hcapi : (l.length : Int) ≤ cap := by omega
      clear hcl hcs hrec
      have hEc := HE.out
      rw [portsE_cons hlt] at hEc
      have HEC := Lib.hid hEc
      have HSn := Lib.hid (portsS_snoc (side := k.ins) hlt)
      have HNn := Lib.hid (portsN_snoc (seen := k.seen) hlt)
      have hpz := HSZ.out l[j] (List.getElem_mem hlt)
      generalize l[j] = p at *
      clear hEc
      rw [port_split] at HEC
      have hsl := portsN_len hj HN.out
      obtain ⟨sn, hsn⟩ : ∃ x, portsN k.seen (l.take j) = x := ⟨_, rfl⟩
      obtain ⟨sd, hsd⟩ : ∃ x, portsS k.ins (l.take j) = x := ⟨_, rfl⟩
      rw [hsn, hsd] at HEC HC
      rw [hsn] at HNn hsl
      rw [hsd] at HSn
      clear hsn hsd HE
      have hbX := below_alloc wr (.cells #[.string p.name, .int .i64 p.actor, .int .i64 p.port] 65)
      have hX : Blk (wr.alloc (.cells #[.string p.name, .int .i64 p.actor, .int .i64 p.port] 65)) (ext q wr.heap.size 8) 8 wr.heap.size 65 #[.string p.name, .int .i64 p.actor, .int .i64 p.port] := ⟨heap_alloc_new wr _, ext_new (Nat.le_refl _)⟩
      have hTX := (Turn.of_below q 8 hbX).mono (D := ChkP) (fun _ h => h.elim)
      have HK2 := Lib.hid (HK.out.of_below 8 hbX)
      have HT2 := Lib.hid (HT.out.trans hTX (fun _ h => h))
      have HR2 := Lib.hid (HR.out.turn (Turn.of_below q 8 hbX) (fun h => h))
      have HC2 := Lib.hid (HC.out.below 8 hbX)
      have HX := Lib.hid hX
      clear hbX hX hTX HK HT HR HC
      go_wp2_with fail
      refine (gname_any _ (ext q wr.heap.size 8) C B X ⟨sn, sd, k.outs⟩ p.name hpz hsl HC2.out).mono ?_
      rintro e w4 ⟨rfl, o4, T40, hC4⟩
      have T4 := T40.mono (D := ChkP) (fun x e => .inl e)
      have HK4 := Lib.hid (HK2.out.turn T4 (by unfold ChkP; omega))
      have HT4 := Lib.hid (HT2.out.trans T4 (fun _ h => h))
      have HR4 := Lib.hid (HR2.out.turn T4 (by unfold ChkP; omega))
      have HX4 := Lib.hid (HX.out.turn T4 (by unfold ChkP; omega))
      have HC4 := Lib.hid hC4
      clear T40 T4 hC4 HK2 HT2 HR2 HC2 HX
      obtain ⟨ne, hne⟩ : ∃ x, nameE sn p.name = x := ⟨_, rfl⟩
      rw [show nameE (Chk.seen ⟨sn, sd, k.outs⟩) p.name = ne from hne] at HC4 ⊢
      rw [hne] at HEC
      clear hne
      by_cases h0 : ne = 0
      · subst h0
        have hC5 := HC4.out rfl
        obtain ⟨gI, hSI⟩ := hC5.ins
        have HC5 := Lib.hid hC5
        have HSI := Lib.hid hSI
        have x1 := HX4.out.cell 1 _ rfl
        have x2 := HX4.out.cell 2 _ rfl
        rw [if_neg (by simp)] at HEC
        clear hC5 hSI HC4
        go_wp2_with fail
        refine (gtake_any _ o4 3 4 X.vI sd gI p.actor p.port (by decide) HSI.out).mono ?_
        rintro e w5 ⟨rfl, T5, hS5⟩
        have HK5 := Lib.hid (HK4.out.turn T5 (by decide))
        have HT5 := Lib.hid (HT4.out.trans T5 (fun x e => by subst e; unfold ChkP; omega))
        have HR5 := Lib.hid (HR4.out.turn T5 (by decide))
        have HC6 := Lib.hid (fun (e : takeE sd p.actor p.port = 0) => HC5.out.tookI T5 (hS5 e))
        clear T5 hS5 HK4 HT4 HR4 HX4 HC5 HSI x1 x2
        obtain ⟨te, hte⟩ : ∃ x, takeE sd p.actor p.port = x := ⟨_, rfl⟩
        rw [hte] at HEC HC6 ⊢
        clear hte
        by_cases h0 : te = 0
        · subst h0
          have HC7 := Lib.hid (HC6.out rfl)
          rw [if_neg (by simp)] at HEC
          have HE2 : Hid (portsE (portsN k.seen (l.take (j + 1))) (portsS k.ins (l.take (j + 1))) (l.drop (j + 1)) = E) := Lib.hid (by rw [HNn.out, HSn.out]; exact HEC.out)
          have HC8 : Hid (ChkAt w5 o4 C B X ⟨portsN k.seen (l.take (j + 1)), portsS k.ins (l.take (j + 1)), k.outs⟩) := Lib.hid (by rw [HNn.out, HSn.out]; exact HC7.out)
          have hnn := HN.out
          clear HC6 HC7 HEC
          go_wp2
          go_roundw
          case rel => exact ⟨j + 1, o4, hlt, by go_num, HK5.out, HT5.out, HR5.out, HC8.out, HE2.out⟩
          case measure => simp [intOf]; omega
        · have e : E = te := by rw [← HEC.out, if_pos h0]
          subst e
          have z0 := HR5.out.cell 0 _ rfl
          have z1 := HR5.out.cell 1 _ rfl
          have z2 := HR5.out.cell 2 _ rfl
          have f0 := HR5.out.frozen 0
          have f1 := HR5.out.frozen 1
          have f2 := HR5.out.frozen 2
          go_wp2
          refine bodyPost_ret_by (results_tmp_row rfl _ _ _ _ _ _ _ rfl (spot_set HR5.out) Try.underlying140 rfl (by kernel_rfl)) rfl ?_
          exact ⟨⟨_, _, _, rfl⟩, _, HT5.out.late 7 (spot_mods (by have := HRE.out; omega) _ _ _), fun h => absurd h h0⟩
      · have e : E = ne := by rw [← HEC.out, if_pos h0]
        subst e
        have z0 := HR4.out.cell 0 _ rfl
        have z1 := HR4.out.cell 1 _ rfl
        have z2 := HR4.out.cell 2 _ rfl
        have f0 := HR4.out.frozen 0
        have f1 := HR4.out.frozen 1
        have f2 := HR4.out.frozen 2
        go_wp2
        refine bodyPost_ret_by (results_tmp_row rfl _ _ _ _ _ _ _ rfl (spot_set HR4.out) Try.underlying140 rfl (by kernel_rfl)) rfl ?_
        exact ⟨⟨_, _, _, rfl⟩, _, HT4.out.late 7 (spot_mods (by have := HRE.out; omega) _ _ _), fun h => absurd h h0⟩
    · obtain rfl : j = l.length := by omega
      have hfin := HE.out
      rw [List.drop_length, List.take_length] at hfin
      obtain rfl : E = 0 := hfin.symm
      have hC9 := HC.out
      rw [List.take_length, ] at hC9
      have HC9 := Lib.hid hC9
      clear hfin hC9
      have z0 := HR.out.cell 0 _ rfl
      have z1 := HR.out.cell 1 _ rfl
      have z2 := HR.out.cell 2 _ rfl
      have f0 := HR.out.frozen 0
      have f1 := HR.out.frozen 1
      have f2 := HR.out.frozen 2
      go_wp2
      refine bodyPost_ret_by (results_tmp_row rfl _ _ _ _ _ _ _ rfl (spot_set HR.out) Try.underlying140 rfl (by kernel_rfl)) rfl ?_
      exact ⟨⟨_, _, _, rfl⟩, _, HT.out.late 7 (spot_mods (by have := HRE.out; omega) _ _ _), fun _ => HC9.out.spot HR.out _ _ _⟩
end Go.Proofs.Ytbmbfifempkhgaa
