/- A new machine, plainly. No function in sight. -/
import Derived.Test.YtnnnpippekpibaaSvmStepsZ6
import Derived.Deep.LoopGhost
import Derived.Test.YtnnnpippekpibaaSvmStepsZ5
import Derived.Laws.CopyRow
import Derived.Laws.IdiomCopy
namespace Go.Proofs.Ytnnnpippekpibaa
open Go.RowKit

/-- a line's first tokens, laid in its region -/
def layS (mem : List Int) (l : GLine) : List Int := mem.take l.base.toNat ++ l.start ++ mem.drop (l.base.toNat + l.start.length)
def newMem (P : GProg) (k : Nat) : List Int := (P.lines.take k).foldl layS (List.replicate P.memory.toNat 0)
def newLine (l : GLine) : LineP := ⟨l.base.toNat, l.size.toNat, 0, l.start.length⟩
def newP (P : GProg) : MachP := ⟨newMem P P.lines.length, P.lines.map newLine, List.replicate P.ins.toNat [], List.replicate P.outs.toNat [], P.parts.map fun p => (keep0 p.tag p.params, 0), List.replicate P.counters.toNat 0, [], 0, 0, none⟩
def SFits (P : GProg) : Prop := ∀ l ∈ P.lines, ∀ x ∈ l.start, Fits x
theorem layS_len {mem : List Int} {l : GLine} {n : Nat} (h : mem.length = n) (hb : l.base.toNat + l.start.length ≤ n) : (layS mem l).length = n := by
  unfold layS
  rw [List.length_append, List.length_append, List.length_take, List.length_drop]
  omega
theorem line_fit {P : GProg} (hP : POk P) {l : GLine} (hl : l ∈ P.lines) : l.base.toNat + l.start.length ≤ P.memory.toNat := by
  have h1 := hP.lines l hl
  omega
theorem newMem_succ {P : GProg} {k : Nat} (hk : k < P.lines.length) : newMem P (k + 1) = layS (newMem P k) P.lines[k] := by
  unfold newMem
  rw [List.take_succ_eq_append_getElem hk, List.foldl_append]
  rfl
theorem newMem_len {P : GProg} (hP : POk P) : ∀ k, k ≤ P.lines.length → (newMem P k).length = P.memory.toNat
  | 0, _ => by simp [newMem]
  | k + 1, hk => by
    rw [newMem_succ (by omega)]
    exact layS_len (newMem_len hP k (by omega)) (line_fit hP (List.getElem_mem _))
theorem newMem_fits {P : GProg} (hs : SFits P) : ∀ k, k ≤ P.lines.length → ∀ x ∈ newMem P k, Fits x
  | 0, _, x, hx => by
    unfold newMem at hx
    rw [List.take_zero, List.foldl_nil] at hx
    rw [List.eq_of_mem_replicate hx]
    exact fits_z
  | k + 1, hk, x, hx => by
    rw [newMem_succ (by omega), layS] at hx
    have ih := newMem_fits hs k (by omega)
    rcases List.mem_append.1 hx with hx | hx
    · rcases List.mem_append.1 hx with hx | hx
      · exact ih x (List.mem_of_mem_take hx)
      · exact hs _ (List.getElem_mem _) x hx
    · exact ih x (List.mem_of_mem_drop hx)
theorem newP_ready {P : GProg} {S : Int} (hS : cstepsE P = (S, 0)) : Ready P (newP P) (S.toNat - 1) := ⟨(rest_start hS).2.2, fun e he => by cases he⟩
theorem newP_ok {P : GProg} {S : Int} {F : Nat} (hS : cstepsE P = (S, 0)) (hf : PFits P) (hs : SFits P) : MOk P F 0 (newP P) := by
  have hP := pok_of hS
  have hb := rest_start hS
  refine ⟨newMem_len hP _ (Nat.le_refl _), newMem_fits hs _ (Nat.le_refl _), List.length_map _, fun l hl => ?_, List.length_replicate, fun r hr => ?_, List.length_replicate, fun r hr => ?_, List.length_map _, fun b hb => ?_, ⟨Nat.zero_le _, fun _ h => by cases h⟩, ⟨S.toNat - 1, by omega, hb.2.2⟩, Nat.le_refl _, fun e he => by cases he⟩
  · obtain ⟨q, hq, rfl⟩ := List.mem_map.1 hl
    have h1 := hP.lines q hq
    refine ⟨?_, ?_, Nat.zero_le _, fun h => h⟩
    · show q.base.toNat + q.size.toNat ≤ _
      omega
    · show q.start.length ≤ q.size.toNat
      omega
  · rw [List.eq_of_mem_replicate hr]
    exact ⟨Nat.zero_le _, fun _ h => by cases h⟩
  · rw [List.eq_of_mem_replicate hr]
    exact ⟨Nat.zero_le _, fun _ h => by cases h⟩
  · obtain ⟨p, hp, rfl⟩ := List.mem_map.1 hb
    exact ⟨Int.le_refl _, Int.le_refl _, keep0_fits (hP.parts p hp) (hf p hp)⟩
end Go.Proofs.Ytnnnpippekpibaa

/- The invariant behind feeds and runs. No function in sight. -/
namespace Go.Proofs.Ytnnnpippekpibaa
open Go.RowKit

theorem MOk.more {P : GProg} {F G s s' : Nat} {m : MachP} (h : MOk P F s m) (hs : s ≤ s') (hF : F ≤ G) : MOk P G s' m :=
  { h with fedf := fun r hr => ⟨by have := (h.fedf r hr).1; omega, (h.fedf r hr).2⟩, outf := fun r hr => ⟨by have := (h.outf r hr).1; omega, (h.outf r hr).2⟩, bodf := fun b hb => by have := h.bodf b hb; exact ⟨this.1, by omega, this.2.2⟩, per := by have := h.per; omega }
theorem MOk.feed {P : GProg} {F s G : Nat} {m : MachP} (h : MOk P F s m) (i : Nat) {ts : List Int} (hl : ts.length ≤ G) (hf : ∀ x ∈ ts, Fits x) : MOk P (F + G) s (feedAt m i ts) := by
  have H := h.more (Nat.le_refl s) (Nat.le_add_right F G)
  have hr := rowAt_ok (Q := fun r : List Int => r.length ≤ F ∧ ∀ x ∈ r, Fits x) h.fedf ⟨Nat.zero_le _, fun _ h => by cases h⟩ i
  refine { H with fed := by rw [← h.fed]; exact List.length_set, fedf := all_set (Q := fun r : List Int => r.length ≤ F + G ∧ ∀ x ∈ r, Fits x) H.fedf ⟨by rw [List.length_append]; have := hr.1; omega, fun x hx => ?_⟩ }
  rcases List.mem_append.1 hx with hx | hx
  · exact hr.2 x hx
  · exact hf x hx
/-- each input is fed at most once: what an input has -/
theorem MOk.feedAll {P : GProg} {s : Nat} : ∀ (X : List (List Int)) (i F G : Nat) (m : MachP), MOk P F s m → (∀ r ∈ X, r.length ≤ G ∧ ∀ x ∈ r, Fits x) → MOk P (F + X.length * G) s (feedAll X i m)
  | [], i, F, G, m, h, _ => by
    rw [List.length_nil, Nat.zero_mul]
    exact h
  | x :: r, i, F, G, m, h, hx => by
    have h1 := hx x List.mem_cons_self
    have h2 := MOk.feedAll r (i + 1) (F + G) G (feedAt m i x) (h.feed i h1.1 h1.2) (fun y hy => hx y (List.mem_cons_of_mem _ hy))
    rw [List.length_cons, Nat.add_mul, Nat.one_mul, show F + (r.length * G + G) = F + G + r.length * G by omega]
    exact h2
theorem mrun_ok {P : GProg} {S : Int} {F : Nat} (hS : cstepsE P = (S, 0)) (hf : PFits P) (to : Int) : ∀ (f s : Nat) (m : MachP), MOk P F s m → MOk P F (s + f) (mrun P to f m).2
  | 0, s, m, h => h
  | f + 1, s, m, h => by
    rw [mrun]
    split
    · split
      · exact (mstep_ok hS hf h).more (by omega) (Nat.le_refl _)
      · have := mrun_ok hS hf to f (s + 1) _ (mstep_ok hS hf h)
        exact this.more (by omega) (Nat.le_refl _)
    · exact h.more (by omega) (Nat.le_refl _)
/-- .. of at most eight periods -/
theorem mrunTo_ok {P : GProg} {S : Int} {F s : Nat} {to : Int} {m : MachP} (hS : cstepsE P = (S, 0)) (hf : PFits P) (h : MOk P F s m) (ht : to ≤ m.periods + 8) : MOk P F (s + 1048576) (mrunTo P S to m).2 := by
  have hb := rest_start hS
  have h1 := mrun_ok hS hf to ((to - m.periods).toNat * S.toNat) s m h
  refine h1.more ?_ (Nat.le_refl _)
  have h2 : (to - (m.periods : Int)).toNat * S.toNat ≤ 8 * 131072 := Nat.mul_le_mul (by omega) (by omega)
  omega
end Go.Proofs.Ytnnnpippekpibaa

/- Step and Run, walked. -/
namespace Go.Proofs.Ytnnnpippekpibaa
open Go.RowKit

theorem step_any {w : World} {o : Col} {M b tb : Nat} {P : GProg} {m : MachP} {v : MVals} {F s : Nat} (h : MachAt w o M b P m v) (hT : TableAt w o M tb) (hP : POk P) (hf : PFits P) (hm : MOk P F s m) (hs : s ≤ 1000000000) :
    Calls Try.prog 33 #[.pointer (some ⟨b, 0, none⟩), .slice (some ⟨tb, 0, none⟩) 8 8] w (StepRet w o M b P (mstep P m)) := by
  rcases hl : m.last with _ | e
  · exact step_goes h hT hP hf hm hs hl
  · exact step_stands h hl

def TableRet (w : World) (e : Ending) (w' : World) : Prop := ∃ tb, e = .returned (.slice (some ⟨tb, 0, none⟩) 8 8) ∧ w'.heap[tb]? = some (.cells tableV.toArray 103 (0, 0)) ∧ w.heap.size ≤ tb ∧ Below w.heap.size w w'
theorem table_any (w : World) : Calls Try.prog 32 #[] w (TableRet w) := by
  go_enter Try.func32, Try.ntmps32
  go_wp2
  go_ret
  exact ⟨w.heap.size, rfl, heap_alloc_new w _, Nat.le_refl _, below_alloc w _⟩
theorem TableRet.at {w w' : World} {tb : Nat} (o : Col) (M : Nat) (h1 : w'.heap[tb]? = some (.cells tableV.toArray 103 (0, 0))) (h2 : w.heap.size ≤ tb) : TableAt w' (ext o w.heap.size (M + 209)) M tb := ⟨h1, ext_new h2⟩

/-- an event's errno behind it -/
def StepPRet (w : World) (o : Col) (M b : Nat) (P : GProg) (r : EvP × MachP) (e : Ending) (w' : World) : Prop :=
  ∃ o' v' cv, e = .returned (.tuple #[evV r.1 cv, .int .i64 0]) ∧ Turn o o' (MineS M) w w' ∧ MachAt w' o' M b P r.2 v' ∧ Ints w' o' (M + 210) cv r.1.cells

set_option maxRecDepth 100000 in
set_option maxHeartbeats 1000000 in
theorem Step_any {w : World} {o : Col} {M b : Nat} {P : GProg} {m : MachP} {v : MVals} {F s : Nat} (h : MachAt w o M b P m v) (hP : POk P) (hf : PFits P) (hm : MOk P F s m) (hs : s ≤ 1000000000) :
    Calls Try.prog 12 #[.pointer (some ⟨b, 0, none⟩)] w (StepPRet w o M b P (mstep P m)) := by
  have hb0 := below_alloc w (.cells #[.int .i64 0, .int .u8 0, .int .i64 0, .slice none 0 0, .int .u8 0] 39)
  have T0 := Turn.of_below o (M + 211) hb0
  have R0 : Blk (w.alloc (.cells #[.int .i64 0, .int .u8 0, .int .i64 0, .slice none 0 0, .int .u8 0] 39)) (ext o w.heap.size (M + 211)) (M + 211) w.heap.size 39 #[.int .i64 0, .int .u8 0, .int .i64 0, .slice none 0 0, .int .u8 0] := ⟨heap_alloc_new w _, ext_new (Nat.le_refl _)⟩
  have h0 := h.turn T0 (fun _ h => h.elim)
  have HM := Lib.hid h0
  have HR := Lib.hid R0
  have HT := Lib.hid T0
  clear h hb0 T0 R0 h0
  generalize ext o w.heap.size (M + 211) = q at *
  go_enter Try.func12, Try.ntmps12
  go_wp2_with fail
  refine (table_any _).mono ?_
  rintro e w1 ⟨tb, rfl, k1, k2, hb1⟩
  have T1 := Turn.of_below q (M + 209) hb1
  have HTA := Lib.hid (TableRet.at q M k1 k2)
  have HM1 := Lib.hid (HM.out.turn T1 (fun _ h => h.elim))
  have HR1 := Lib.hid (HR.out.turn T1 (fun h => h))
  have HT1 := Lib.hid (HT.out.trans T1 (fun _ h => h))
  generalize ext q _ (M + 209) = q1 at *
  clear k1 k2 hb1 T1 HM HR HT
  go_wp2_with fail
  refine (step_any HM1.out HTA.out hP hf hm hs).mono ?_
  rintro e w2 ⟨o2, v2, cv, rfl, T2, M2, I2⟩
  have R2 := HR1.out.turn T2 (notMineS (by omega))
  obtain ⟨ca, cc, rfl⟩ := I2.slice
  obtain ⟨⟨⟨evo, evk, evl, evc, evh⟩, m2⟩, hr⟩ : ∃ x, mstep P m = x := ⟨_, rfl⟩
  rw [hr] at M2 I2 ⊢
  have HRR := Lib.hid hr
  unfold evV
  dsimp only at M2 I2 ⊢
  have g0 := R2.frozen 0
  have g1 := R2.frozen 1
  have g2 := R2.frozen 2
  have g3 := R2.frozen 3
  have g4 := R2.frozen 4
  have k0 := R2.cell 0 _ rfl
  have k1 := R2.cell 1 _ rfl
  have k2 := R2.cell 2 _ rfl
  have k3 := R2.cell 3 _ rfl
  have k4 := R2.cell 4 _ rfl
  have S7 := res_store R2 (.int .i64 evo) (.int .u8 evk) (.int .i64 evl) (.slice ca evc.length cc) (.int .u8 evh)
  have M7 := M2.turn S7.2 (fun c hc => by rw [hc]; exact notMine (by omega))
  have I7 := I2.turn S7.2 (by omega)
  have T7 := ((HT1.out.mono (D := MineS M) (fun _ h => h.elim)).trans T2 (fun _ h => h)).fresh (res_mods w2 w.heap.size (.int .i64 evo) (.int .u8 evk) (.int .i64 evl) (.slice ca evc.length cc) (.int .u8 evh)) (Nat.le_refl _)
  have HS7 := Lib.hid S7.1
  have HM7 := Lib.hid M7
  have HI7 := Lib.hid I7
  have HT7 := Lib.hid T7
  clear R2 S7 M7 I7 T7 M2 I2 T2 HM1 HT1 HR1 HTA hr hm
  go_wp2
  refine bodyPost_ret_by (results_row_tmp rfl _ _ _ _ _ _ _ rfl HS7.out.1 Try.underlying39 rfl (by kernel_rfl)) rfl ?_
  rw [HRR.out]
  exact ⟨_, _, _, rfl, HT7.out, HM7.out, HI7.out⟩

theorem field_halt (a b c v : Value) (h : Int) (w : World) : (Instr.field 39 (.agg #[a, b, c, v, .int .u8 h]) 4).run Try.prog w = .ok (.int .u8 h) w := by kernel_rfl
/-- what a run answers -/
def RunRet (w : World) (o : Col) (M b : Nat) (P : GProg) (r : Int × MachP) (e : Ending) (w' : World) : Prop :=
  ∃ o' v', e = .returned (.tuple #[.int .u8 r.1, .int .i64 0]) ∧ Turn o o' (MineS M) w w' ∧ MachAt w' o' M b P r.2 v'

set_option maxRecDepth 100000 in
set_option maxHeartbeats 2000000 in
theorem Run_any {w : World} {o : Col} {M b : Nat} {P : GProg} {S : Int} {m : MachP} {v : MVals} {F s : Nat} (n : Nat) (h : MachAt w o M b P m v) (hS : cstepsE P = (S, 0)) (hf : PFits P) (hm : MOk P F s m) (hs : s ≤ 900000000) (hn : n ≤ 8) {d : Nat} (hrd : Ready P m d) (hd : d < S.toNat) :
    Calls Try.prog 11 #[.pointer (some ⟨b, 0, none⟩), .int .i64 n] w (RunRet w o M b P (mrunTo P S (m.periods + n) m)) := by
  have hP := pok_of hS
  have hSb := rest_start hS
  have hper := hm.per
  obtain ⟨R, hR⟩ : ∃ x, mrunTo P S (m.periods + n) m = x := ⟨_, rfl⟩
  have hml := meas_le (S := S.toNat) (to := (m.periods : Int) + n) (m := m) hd
  have hmb : meas S.toNat ((m.periods : Int) + n) m d ≤ 1048576 := by
    refine Nat.le_trans hml ?_
    have h2 : ((m.periods : Int) + n - (m.periods : Int)).toNat * S.toNat ≤ 8 * 131072 := Nat.mul_le_mul (by omega) (by omega)
    omega
  obtain ⟨to, hto⟩ : ∃ x : Int, (m.periods : Int) + n = x := ⟨_, rfl⟩
  rw [hto] at hR hml hmb ⊢
  have hto2 : to ≤ 1000000000 := by omega
  have c10 := h.cell 10 (u := .int .i64 (m.periods : Int)) (by unfold machV; rfl)
  have e1 : IntKind.i64.wrap ((m.periods : Int) + n) = to := by rw [hto]; exact IntWalk.i64_in _ (by omega)
  have HM := Lib.hid h
  have HRD := Lib.hid hrd
  have HMO := Lib.hid hm
  have HRR := Lib.hid hR
  have hn0 : ¬ (n : Int) < 0 := by omega
  have hn8 : ¬ (8 : Int) < n := by omega
  obtain ⟨pz, hpz⟩ : ∃ x : Int, (m.periods : Int) = x := ⟨_, rfl⟩
  rw [hpz] at c10 e1
  clear h hm hrd hR hto hml hpz
  go_enter Try.func11, Try.ntmps11
  go_wp2_with fail
  refine (table_any _).mono ?_
  rintro e w1 ⟨tb, rfl, k1, k2, hb1⟩
  have T1 := Turn.of_below o (M + 209) hb1
  have HTA := Lib.hid (TableRet.at o M k1 k2)
  have hM1 := HM.out.turn T1 (fun _ h => h.elim)
  have c10 := cell_later hb1 c10
  have HM1 := Lib.hid hM1
  have HT1 := Lib.hid (T1.mono (D := MineS M) (fun _ h => h.elim))
  generalize ext o _ (M + 209) = q1 at *
  clear k1 k2 hb1 T1 HM hM1
  go_wp2_with fail
  obtain ⟨G, hG⟩ : ∃ x, meas S.toNat to m d = x := ⟨_, rfl⟩
  rw [hG] at hmb
  have HG := Lib.hid hG
  clear hG
  go_loopg [8] G (fun g x wl => ∃ (q : Col) (v' : MVals) (m' : MachP) (s' d' : Nat), g = meas S.toNat to m' d' ∧ s' + g ≤ s + G ∧ Turn o q (MineS M) w wl ∧ MachAt wl q M b P m' v' ∧ TableAt wl q M tb ∧ MOk P F s' m' ∧ Ready P m' d' ∧ d' < S.toNat ∧ mrunTo P S to m' = R)
  case atStart => exact ⟨q1, v, m, s, d, HG.out.symm, Nat.le_refl _, HT1.out, HM1.out, HTA.out, HMO.out, HRD.out, hd, HRR.out⟩
  case round =>
    clear HT1 HM1 HTA HMO HRD HG
    obtain ⟨q, v', m', s', d', hg, hsg, T5, M5, TA5, MO5, RD5, hd5, hR5⟩ := hrel
    have d10 := M5.cell 10 (u := .int .i64 (m'.periods : Int)) (by unfold machV; rfl)
    have HM5 := Lib.hid M5
    have HT5 := Lib.hid T5
    have HTA5 := Lib.hid TA5
    have HMO5 := Lib.hid MO5
    have HRD5 := Lib.hid RD5
    have HR5 := Lib.hid hR5
    have HSG := Lib.hid hsg
    have HGG := Lib.hid hg
    have hs5 : s' ≤ 1000000000 := by omega
    clear M5 T5 TA5 hsg hg
    obtain ⟨pz, hpz⟩ : ∃ x : Int, (m'.periods : Int) = x := ⟨_, rfl⟩
    rw [hpz] at d10
    by_cases hp : pz < to
    · have hp' : (m'.periods : Int) < to := by omega
      have hin := inner_step hS RD5 hd5 hp' hR5
      have hok := mstep_ok hS hf MO5
      have hmp := meas_pos (S := S.toNat) (to := to) (m := m') (d := d')
      clear MO5 RD5 hR5 hpz
      have hready := ready_step hS HRD5.out to hp' hd5
      have HIN := Lib.hid hin
      have HOK := Lib.hid hok
      have HRE := Lib.hid hready
      clear hin hok hready
      go_wp2_with fail
      refine (step_any HM5.out HTA5.out hP hf HMO5.out hs5).mono ?_
      rintro e w6 ⟨o6, v6, cv, rfl, T6, M6, I6⟩
      obtain ⟨ca, cc, rfl⟩ := I6.slice
      have TT6 := HT5.out.trans T6 (fun _ h => h)
      have TA6 := HTA5.out.turn T6 (notMineS (by omega))
      obtain ⟨⟨⟨evo, evk, evl, evc, evh⟩, m2⟩, hr⟩ : ∃ x, mstep P m' = x := ⟨_, rfl⟩
      rw [hr] at M6 I6 HIN HOK HRE ⊢
      unfold evV
      dsimp only at M6 HIN HOK HRE ⊢
      have HM6 := Lib.hid M6
      have HT6 := Lib.hid TT6
      have HTA6 := Lib.hid TA6
      clear M6 I6 T6 TT6 TA6 HM5 HT5 HTA5 hr d10
      have hfl := field_halt (.int .i64 evo) (.int .u8 evk) (.int .i64 evl) (.slice ca evc.length cc)
      by_cases h0 : evh = 0
      · subst h0
        obtain ⟨d9, hd9, hrd9, hme9, -⟩ := HRE.out (.inl rfl)
        have hR9 : mrunTo P S to m2 = R := by
          rcases HIN.out with ⟨_, _, _, _, _, h⟩ | ⟨h1, _⟩ | ⟨h1, _⟩
          · exact h
          · omega
          · exact absurd rfl h1
        have HR9 := Lib.hid hR9
        have HRD9 := Lib.hid hrd9
        have HME9 := Lib.hid hme9
        clear hR9 hrd9 hme9
        go_wp2
        go_roundg (meas S.toNat to m2 d9)
        case rel => exact ⟨o6, v6, m2, s' + 1, d9, rfl, by have := HSG.out; have := HME9.out; have := HGG.out; omega, HT6.out, HM6.out, HTA6.out, HOK.out, HRD9.out, hd9, HR9.out⟩
        case measure => have := HME9.out; have := HGG.out; omega
      · by_cases h1 : evh = 1
        · subst h1
          obtain ⟨d9, hd9, hrd9, hme9, -⟩ := HRE.out (.inr rfl)
          have hR9 : mrunTo P S to m2 = R := by
            rcases HIN.out with ⟨h1, _⟩ | ⟨_, _, _, _, _, _, _, h⟩ | ⟨_, h1, _⟩
            · omega
            · exact h
            · exact absurd rfl h1
          have HR9 := Lib.hid hR9
          have HRD9 := Lib.hid hrd9
          have HME9 := Lib.hid hme9
          clear hR9 hrd9 hme9
          go_wp2
          go_roundg (meas S.toNat to m2 d9)
          case rel => exact ⟨o6, v6, m2, s' + 1, d9, rfl, by have := HSG.out; have := HME9.out; have := HGG.out; omega, HT6.out, HM6.out, HTA6.out, HOK.out, HRD9.out, hd9, HR9.out⟩
          case measure => have := HME9.out; have := HGG.out; omega
        · have hb0 : (evh != 0) = true := by rw [bne_iff_ne]; exact h0
          have hb1 : (evh != 1) = true := by rw [bne_iff_ne]; exact h1
          have hR9 : R = (evh, m2) := by
            rcases HIN.out with ⟨h, _⟩ | ⟨h, _⟩ | ⟨_, _, h⟩
            · exact absurd h h0
            · exact absurd h h1
            · exact h
          subst hR9
          go_wp2
          go_ret2
          rw [HRR.out]
          exact ⟨o6, v6, rfl, HT6.out, HM6.out⟩
    · have hR9 := mrunTo_done (P := P) (S := S) (to := to) (m := m') (by omega)
      rw [HR5.out] at hR9
      subst hR9
      clear MO5 RD5 hR5
      go_wp2
      go_ret2
      rw [HRR.out]
      exact ⟨q, v', rfl, HT5.out, HM5.out⟩
end Go.Proofs.Ytnnnpippekpibaa

/- What a machine answers: its lists, as new memory; what is fed. -/
namespace Go.Proofs.Ytnnnpippekpibaa
open Go.RowKit

set_option maxHeartbeats 400000 in
theorem own_any {o : Col} {c : Nat} (w : World) (ao : Option Addr) (n cap : Nat) (l : List Int) (h : Ints w o c (.slice ao n cap) l) (hn : l.length ≤ 20000000000000) : Calls Try.prog 40 #[.slice ao n cap] w (NewInts w l) := by
  obtain ⟨i0, hi, hz0, hz1, hz2⟩ := info_parts info_int
  obtain ⟨hnone, hnews⟩ := h.news
  obtain rfl := h.len
  have HN := Lib.hid hn
  have Hnone := Lib.hid hnone
  have Hnews := Lib.hid hnews
  clear hn hnone hnews h
  go_enter Try.func40, Try.ntmps40
  go_wp2_with (at_builtin; refine stop_here ?_)
  refine go_on ?_
  refine wpList_app rfl _ _ 37 rfl w.heap.size 3 i0 _ 1 8 Try.underlying37 hi hz0 hz1 hz2 rfl (.slice none 0 0) 0 [] rfl (World.ownsRow_nil w w.heap.size 3 1) ao l.length cap (ivs l) rfl (by simp) Hnone.out (fun ad had j u hu => Hnews.out ad had j u hu) (ivs_one l) (by have := HN.out; unfold maxLen; omega) (grow_ok (by have := HN.out; omega)) (Nat.le_refl _) ?_
  intro v' w2 g1 g20 g3 g4
  have g2 : w.grownBy w2 (Value.slice none 0 0).ownBlock := g20
  have hb : Below w.heap.size w w2 := ((Mods.refl (fun _ => False) w).grown g2 (fun k hk hlt => by cases hk)).below (Nat.le_refl _) (fun _ _ h => h)
  simp only [Nat.zero_add, List.nil_append] at g1
  have G1 := Lib.hid g1
  clear g1 g20 g2 g3 g4
  obtain ⟨sv, cv, rfl⟩ := owns_slice G1.out
  go_wp2
  go_ret
  exact ⟨_, rfl, by simpa using G1.out, hb⟩

section
variable {w : World} {o : Col} {M b : Nat} {P : GProg} {m : MachP} {v : MVals}
theorem Blk.ints {w : World} {o : Col} {c g : Nat} {l : List Int} (h : Blk w o c g 3 (ivs l).toArray) : Ints w o c (.slice (some ⟨g, 0, none⟩) l.length l.length) l := by
  have := vals_of_cells (w := w) (o := o) (c := c) (ao := some ⟨g, 0, none⟩) (vs := ivs l) (cap := l.length) (by rw [ivs_len]; exact Nat.le_refl _) (fun h => by cases h) (fun a ha => by cases ha; rfl) (fun ad had j u hu => by
    obtain rfl := Option.some.inj had
    rw [Addr.add_lit, Nat.zero_add]
    exact h.cell j u (by simpa using hu)) (fun a ha _ => by cases ha; exact h.2)
  rw [ivs_len] at this
  exact this

set_option maxRecDepth 100000 in
theorem Counters_any (h : MachAt w o M b P m v) (hl : m.cs.length ≤ 100000) : Calls Try.prog 20 #[.pointer (some ⟨b, 0, none⟩)] w (NewInts w m.cs) := by
  have c7 := h.cell 7 (u := .slice (some ⟨v.cs, 0, none⟩) m.cs.length m.cs.length) (by unfold machV; rfl)
  have HI := Lib.hid h.cs.ints
  clear h
  go_enter Try.func20, Try.ntmps20
  go_wp2_with fail
  refine (own_any w _ _ _ m.cs HI.out (by omega)).mono ?_
  rintro e w1 ⟨lv, rfl, K1, hb1⟩
  obtain ⟨sa, sc, rfl⟩ := owns_slice K1
  have HK := Lib.hid K1
  clear K1
  go_wp2
  go_ret
  exact ⟨_, rfl, HK.out, hb1⟩
set_option maxRecDepth 100000 in
theorem Memory_any (h : MachAt w o M b P m v) (hl : m.mem.length ≤ 100000) : Calls Try.prog 26 #[.pointer (some ⟨b, 0, none⟩)] w (NewInts w m.mem) := by
  have c0 := h.cell 0 (u := .slice (some ⟨v.mem, 0, none⟩) m.mem.length m.mem.length) (by unfold machV; rfl)
  have HI := Lib.hid h.mem.ints
  clear h
  go_enter Try.func26, Try.ntmps26
  go_wp2_with fail
  refine (own_any w _ _ _ m.mem HI.out (by omega)).mono ?_
  rintro e w1 ⟨lv, rfl, K1, hb1⟩
  obtain ⟨sa, sc, rfl⟩ := owns_slice K1
  have HK := Lib.hid K1
  clear K1
  go_wp2
  go_ret
  exact ⟨_, rfl, HK.out, hb1⟩
set_option maxRecDepth 100000 in
theorem Periods_any (h : MachAt w o M b P m v) : Calls Try.prog 19 #[.pointer (some ⟨b, 0, none⟩)] w (SameW (.int .i64 (m.periods : Int)) w) := by
  have c10 := h.cell 10 (u := .int .i64 (m.periods : Int)) (by unfold machV; rfl)
  clear h
  go_enter Try.func19, Try.ntmps19
  go_wp2
  go_ret
  exact ⟨rfl, rfl⟩
/-- all that an output was given -/
def outL (m : MachP) (k : Int) : List Int := if 0 ≤ k ∧ k < m.out.length then rowAt m.out k.toNat else []
theorem newInts_nil (w : World) : NewInts w [] (.returned (.slice none 0 0)) w := ⟨_, rfl, World.ownsRow_nil w w.heap.size 3 1, Below.refl _ _⟩
set_option maxRecDepth 100000 in
theorem eout_any (h : MachAt w o M b P m v) (k : Int) (hl : ∀ r ∈ m.out, r.length ≤ 20000000000000) : Calls Try.prog 41 #[.pointer (some ⟨b, 2, none⟩), .int .i64 k] w (NewInts w (outL m k)) := by
  have c3 := h.cell 3 (u := .slice (some ⟨v.out, 0, none⟩) m.out.length m.out.length) (by unfold machV; rfl)
  have HM := Lib.hid h
  clear h
  unfold outL
  by_cases h0 : k < 0
  · rw [if_neg (by omega)]
    go_enter Try.func41, Try.ntmps41
    go_wp2
    go_ret
    exact newInts_nil w
  · by_cases h1 : k < m.out.length
    · rw [if_pos (by omega)]
      obtain ⟨n, rfl⟩ : ∃ n : Nat, k = n := ⟨k.toNat, by omega⟩
      have hn : n < m.out.length := by omega
      obtain ⟨ra, rc, -, r1, r2, -⟩ := HM.out.out.at hn
      have HR := Lib.hid r2.vals
      have hle := rowAt_ok (Q := fun r : List Int => r.length ≤ 20000000000000) hl (Nat.zero_le _) n
      rw [Int.toNat_natCast]
      have HLE := Lib.hid hle
      obtain ⟨rl, hrl⟩ : ∃ x, (rowAt m.out n).length = x := ⟨_, rfl⟩
      rw [hrl] at r1 HR
      have hnn : decide (m.out.length ≤ n) = false := decide_eq_false (by omega)
      clear r2 hle hrl hl
      go_enter Try.func41, Try.ntmps41
      go_wp2_with fail
      refine (own_any w _ _ _ _ HR.out HLE.out).mono ?_
      rintro e w1 ⟨lv, rfl, K1, hb1⟩
      obtain ⟨sa, sc, rfl⟩ := owns_slice K1
      have HK := Lib.hid K1
      clear K1
      go_wp2
      go_ret
      exact ⟨_, rfl, HK.out, hb1⟩
    · rw [if_neg (by omega)]
      go_enter Try.func41, Try.ntmps41
      go_wp2
      go_ret
      exact newInts_nil w
set_option maxRecDepth 100000 in
theorem Out_any (h : MachAt w o M b P m v) (k : Int) (hl : ∀ r ∈ m.out, r.length ≤ 20000000000000) : Calls Try.prog 24 #[.pointer (some ⟨b, 0, none⟩), .int .i64 k] w (NewInts w (outL m k)) := by
  have HM := Lib.hid h
  clear h
  go_enter Try.func24, Try.ntmps24
  go_wp2_with fail
  refine (eout_any HM.out k hl).mono ?_
  rintro e w1 ⟨lv, rfl, K1, hb1⟩
  obtain ⟨sa, sc, rfl⟩ := owns_slice K1
  have HK := Lib.hid K1
  clear K1
  go_wp2
  go_ret
  exact ⟨_, rfl, HK.out, hb1⟩
end
end Go.Proofs.Ytnnnpippekpibaa

/- Counts, firings; what is fed. -/
namespace Go.Proofs.Ytnnnpippekpibaa
open Go.RowKit

def cntL (m : MachP) : List Int := m.lines.map fun l => (l.cnt : Int)
def firL (m : MachP) : List Int := m.bods.map Prod.snd
theorem map_take_succ {α : Type} (l : List α) (f : α → Int) {j : Nat} (h : j < l.length) : ivs ((l.map f).take (j + 1)) = ivs ((l.map f).take j) ++ [.int .i64 (f l[j])] := by
  rw [List.take_succ_eq_append_getElem (by simpa using h)]
  simp [ivs]

theorem news_at {w : World} {n : Nat} (hn : n = w.heap.size) (l : List Value) (t : TypeId) : ∀ ad, some (⟨n, 0, none⟩ : Addr) = some ad → ∀ j u, l[j]? = some u → (w.alloc (.cells l.toArray t)).cell? (ad.add j) = some u := by
  subst hn
  exact news_alloc w l t

set_option maxRecDepth 100000 in
set_option maxHeartbeats 1000000 in
theorem Count_any {w : World} {o : Col} {M b : Nat} {P : GProg} {m : MachP} {v : MVals} (h : MachAt w o M b P m v) (hl : m.lines.length ≤ 100000) : Calls Try.prog 25 #[.pointer (some ⟨b, 0, none⟩)] w (NewInts w (cntL m)) := by
  obtain ⟨i0, hi, hz0, hz1, hz2⟩ := info_parts info_int
  have HI := Lib.hid hi
  have c1 := h.cell 1 (u := v.lines) (by unfold machV; rfl)
  obtain ⟨la, lc, e⟩ := h.lines.slice
  rw [e] at c1
  have HE := Lib.hid e
  have HM := Lib.hid h
  have hcl : (cntL m).length = m.lines.length := List.length_map _
  have HCL := Lib.hid hcl
  clear h hi e hcl
  obtain ⟨n, hn⟩ : ∃ x, m.lines.length = x := ⟨_, rfl⟩
  have HN := Lib.hid hn
  rw [hn] at c1 hl
  clear hn
  go_enter Try.func25, Try.ntmps25
  go_wp2_with fail
  go_loopw [3, 14] (fun v i wl => ∃ (j : Nat), j ≤ n ∧ i = .int .i64 j ∧ Below w.heap.size w wl ∧ wl.ownsRow w.heap.size 3 1 v j (ivs ((cntL m).take j))) (fun _ i _ => n - (intOf i).toNat)
  case atStart => exact ⟨0, Nat.zero_le _, rfl, Below.refl _ _, World.ownsRow_nil w w.heap.size 3 1⟩
  case round =>
    obtain ⟨j, hj, rfl, hbl, hO⟩ := hrel
    obtain ⟨sa, sc, rfl⟩ := owns_slice hO
    by_cases hlt : j < n
    · have hlti : (j : Int) < n := by omega
      have hjl : j < m.lines.length := by have := HN.out; omega
      obtain ⟨g, cap, eg, hcap, q0, q1, q2, q3, -⟩ := line_cells HM.out hjl
      have eg2 := HE.out.symm.trans eg
      simp only [Value.slice.injEq] at eg2
      obtain ⟨rfl, -, rfl⟩ := eg2
      have d0 := cell_later hbl q0
      have d1 := cell_later hbl q1
      have d2 := cell_later hbl q2
      have d3 := cell_later hbl q3
      have hgs := map_take_succ m.lines (fun l => (l.cnt : Int)) hjl
      rw [← lineAt_is hjl] at hgs
      obtain ⟨⟨lb, ls, lp, ln⟩, hl9⟩ : ∃ x, lineAt m j = x := ⟨_, rfl⟩
      rw [hl9] at d0 d1 d2 d3 hgs
      dsimp only at d0 d1 d2 d3 hgs
      change ivs ((cntL m).take (j + 1)) = ivs ((cntL m).take j) ++ _ at hgs
      have HGS := Lib.hid hgs
      have hlci : (n : Int) ≤ lc := by have := HN.out; omega
      obtain ⟨wx, hwx⟩ : ∃ x, wr.alloc (.cells #[.int .i64 (lb : Int), .int .i64 (ls : Int), .int .i64 (lp : Int), .int .i64 (ln : Int)] 78) = x := ⟨_, rfl⟩
      have HB : Hid (Below w.heap.size w wx) := Lib.hid (by rw [← hwx]; exact hbl.alloc hbl.size _)
      have HO : Hid (wx.ownsRow w.heap.size 3 1 (.slice sa j sc) j (ivs ((cntL m).take j))) := Lib.hid (by rw [← hwx]; exact hO.alloc _)
      have hxn := heap_alloc_new wr (.cells #[.int .i64 (lb : Int), .int .i64 (ls : Int), .int .i64 (lp : Int), .int .i64 (ln : Int)] 78)
      have z3 := cells_row _ _ hxn 3 _ rfl
      rw [hwx] at z3
      clear hxn hgs hl9 hO hbl q0 q1 q2 q3 eg
      subst hwx
      go_wp2_with (at_builtin; refine stop_here ?_)
      refine go_on ?_
      refine wpList_app rfl _ _ 37 rfl w.heap.size 3 i0 _ 1 8 Try.underlying37 HI.out hz0 hz1 hz2 rfl (.slice sa j sc) j _ rfl (HO.out.alloc _) (some ⟨wr.heap.size + 1, 0, none⟩) 1 1 [.int .i64 (ln : Int)] rfl rfl (fun h => by cases h) (news_at (w := wr.alloc (.cells #[.int .i64 (lb : Int), .int .i64 (ls : Int), .int .i64 (lp : Int), .int .i64 (ln : Int)] 78)) (n := wr.heap.size + 1) (by simp) [.int .i64 (ln : Int)] 3) (by simp [Value.oneCell']) (by unfold maxLen; omega) (grow_ok (by omega)) (by have := HB.out.size; (try simp at this); simp; omega) ?_
      intro v7 w7 k1 k20 _ _
      have hb7 := HB.out.trans (below_app HO.out k20 HB.out.size)
      rw [← HGS.out] at k1
      have K1 := Lib.hid k1
      clear k1 k20
      go_wp2
      go_roundw
      case rel => exact ⟨j + 1, hlt, by go_num, hb7, K1.out⟩
      case measure => simp [intOf]; omega
    · obtain rfl : j = n := by omega
      have hall : (cntL m).take j = cntL m := List.take_of_length_le (by rw [HCL.out, HN.out]; exact Nat.le_refl _)
      rw [hall] at hO
      have HO := Lib.hid hO
      have HB := Lib.hid hbl
      clear hO hbl hall
      go_wp2
      go_ret
      exact ⟨_, rfl, by rw [HCL.out, HN.out]; exact HO.out, HB.out⟩

set_option maxRecDepth 100000 in
set_option maxHeartbeats 1000000 in
theorem mFired_any {w : World} {o : Col} {M b : Nat} {P : GProg} {m : MachP} {v : MVals} (h : MachAt w o M b P m v) (hl : m.bods.length = P.parts.length) : Calls Try.prog 27 #[.pointer (some ⟨b, 0, none⟩)] w (NewInts w (firL m)) := by
  obtain ⟨i0, hi, hz0, hz1, hz2⟩ := info_parts info_int
  have HI := Lib.hid hi
  have hsm := h.small.2.2
  have c6 := h.cell 6 (u := v.bods) (by unfold machV; rfl)
  obtain ⟨la, lc, e⟩ := h.bods.slice
  rw [e] at c6
  have HE := Lib.hid e
  have HM := Lib.hid h
  have hcl : (firL m).length = P.parts.length := (List.length_map _).trans hl
  have HCL := Lib.hid hcl
  have HBL := Lib.hid hl
  clear h hi e hcl hl
  obtain ⟨n, hn⟩ : ∃ x, P.parts.length = x := ⟨_, rfl⟩
  have HN := Lib.hid hn
  rw [hn] at c6 hsm
  clear hn
  go_enter Try.func27, Try.ntmps27
  go_wp2_with fail
  go_loopw [3, 13] (fun v i wl => ∃ (j : Nat), j ≤ n ∧ i = .int .i64 j ∧ Below w.heap.size w wl ∧ wl.ownsRow w.heap.size 3 1 v j (ivs ((firL m).take j))) (fun _ i _ => n - (intOf i).toNat)
  case atStart => exact ⟨0, Nat.zero_le _, rfl, Below.refl _ _, World.ownsRow_nil w w.heap.size 3 1⟩
  case round =>
    obtain ⟨j, hj, rfl, hbl, hO⟩ := hrel
    obtain ⟨sa, sc, rfl⟩ := owns_slice hO
    by_cases hlt : j < n
    · have hlti : (j : Int) < n := by omega
      have hjl : j < P.parts.length := by have := HN.out; omega
      have hjb : j < m.bods.length := by have := HBL.out; omega
      obtain ⟨gb, cb, gt, ct, B, eg, hcap, -, -, p1, -, hpx⟩ := part_cells HM.out hjl
      have eg2 := HE.out.symm.trans eg
      simp only [Value.slice.injEq] at eg2
      obtain ⟨rfl, -, rfl⟩ := eg2
      have d1 := cell_later hbl p1
      have hact := HM.out.acts j hjl
      obtain ⟨hp, hpb⟩ := hpx
      rw [hpb] at hact
      have hA := Act.below hact (M + 207) hbl
      have hgs := map_take_succ m.bods Prod.snd hjb
      have hbe : m.bods[j] = bodAt m j := by unfold bodAt; rw [List.getElem?_eq_getElem hjb]; rfl
      rw [hbe] at hgs
      change ivs ((firL m).take (j + 1)) = ivs ((firL m).take j) ++ _ at hgs
      have HGS := Lib.hid hgs
      have HA := Lib.hid hA
      have HB := Lib.hid hbl
      have HO := Lib.hid hO
      have hlci : (n : Int) ≤ lc := by have := HN.out; omega
      clear hgs hbe hA hact hp hpb p1 eg hO hbl
      go_wp2_with fail
      refine (Fired_act HA.out).mono ?_
      rintro e w5 ⟨rfl, rfl⟩
      go_wp2_with (at_builtin; refine stop_here ?_)
      refine go_on ?_
      refine wpList_app rfl _ _ 37 rfl w.heap.size 3 i0 _ 1 8 Try.underlying37 HI.out hz0 hz1 hz2 rfl (.slice sa j sc) j _ rfl (HO.out.alloc _) (some ⟨wr.heap.size, 0, none⟩) 1 1 [.int .i64 (bodAt m j).2] rfl rfl (fun h => by cases h) (news_at (w := wr) (n := wr.heap.size) (by simp) [.int .i64 (bodAt m j).2] 3) (by simp [Value.oneCell']) (by unfold maxLen; omega) (grow_ok (by omega)) (by have := HB.out.size; (try simp at this); simp; omega) ?_
      intro v7 w7 k1 k20 _ _
      have hb7 := HB.out.trans (below_app HO.out k20 HB.out.size)
      rw [← HGS.out] at k1
      have K1 := Lib.hid k1
      clear k1 k20
      go_wp2
      go_roundw
      case rel => exact ⟨j + 1, hlt, by go_num, hb7, K1.out⟩
      case measure => simp [intOf]; omega
    · obtain rfl : j = n := by omega
      have hall : (firL m).take j = firL m := List.take_of_length_le (by rw [HCL.out, HN.out]; exact Nat.le_refl _)
      rw [hall] at hO
      have HO := Lib.hid hO
      have HB := Lib.hid hbl
      clear hO hbl hall
      go_wp2
      go_ret
      exact ⟨_, rfl, by rw [HCL.out, HN.out]; exact HO.out, HB.out⟩
end Go.Proofs.Ytnnnpippekpibaa

/- Tokens are fed. -/
namespace Go.Proofs.Ytnnnpippekpibaa
open Go.RowKit

def inIn (m : MachP) (k : Int) : Prop := 0 ≤ k ∧ k < m.fed.length
instance (m : MachP) (k : Int) : Decidable (inIn m k) := by unfold inIn; infer_instance
def FedRet (w : World) (o : Col) (M b : Nat) (P : GProg) (m : MachP) (k : Int) (ts : List Int) (e : Ending) (w' : World) : Prop :=
  ∃ o' v', e = .returned (.int .i64 0) ∧ Turn o o' (MineS M) w w' ∧ MachAt w' o' M b P (feedAt m k.toNat ts) v'
def FeedRet (w : World) (o : Col) (M b : Nat) (P : GProg) (m : MachP) (k : Int) (ts : List Int) : Ending → World → Prop :=
  if inIn m k then FedRet w o M b P m k ts else SameW (.int .i64 1) w

set_option maxRecDepth 100000 in
set_option maxHeartbeats 1000000 in
theorem efeed_any {w : World} {o : Col} {M b ct : Nat} {P : GProg} {m : MachP} {v : MVals} {ta : Option Addr} {n tc : Nat} {ts : List Int} {o2 : Col} (h : MachAt w o M b P m v) (k : Int) (hts : Ints w o2 ct (.slice ta n tc) ts) (hl : (∀ r ∈ m.fed, r.length + ts.length ≤ 20000000000000)) :
    Calls Try.prog 31 #[.pointer (some ⟨b, 2, none⟩), .int .i64 k, .slice ta n tc] w (FeedRet w o M b P m k ts) := by
  have c2 := h.cell 2 (u := .slice (some ⟨v.fed, 0, none⟩) m.fed.length m.fed.length) (by unfold machV; rfl)
  have HM := Lib.hid h
  have hsm := h.small.1
  clear h
  unfold FeedRet
  by_cases h0 : k < 0
  · rw [if_neg (by unfold inIn; omega)]
    go_enter Try.func31, Try.ntmps31
    go_wp2
    go_ret
    exact ⟨rfl, rfl⟩
  · by_cases h1 : k < m.fed.length
    · rw [if_pos (by unfold inIn; omega)]
      obtain ⟨x, rfl⟩ : ∃ x : Nat, k = x := ⟨k.toNat, by omega⟩
      have hx : x < m.fed.length := by omega
      obtain ⟨ra, rc, -, r1, r2, rf⟩ := HM.out.fed.at hx
      obtain rfl := hts.len
      obtain ⟨hnone, hnews⟩ := hts.news
      have hle : (rowAt m.fed x).length + ts.length ≤ 20000000000000 := by
        have hh : rowAt m.fed x = m.fed[x] := by unfold rowAt; rw [List.getElem?_eq_getElem hx]; rfl
        rw [hh]
        exact hl _ (List.getElem_mem hx)
      unfold FedRet
      rw [Int.toNat_natCast]
      obtain ⟨i0, hi, hz0, hz1, hz2⟩ := info_parts info_int
      have HI := Lib.hid hi
      have HNO := Lib.hid hnone
      have HNE := Lib.hid hnews
      have HR := Lib.hid r2
      have HLE := Lib.hid hle
      obtain ⟨rl, hrl⟩ : ∃ y, (rowAt m.fed x).length = y := ⟨_, rfl⟩
      rw [hrl] at r1 HR
      have HRL := Lib.hid hrl
      have hnn : decide (m.fed.length ≤ x) = false := decide_eq_false (by omega)
      clear hnone hnews r2 hle hrl hl hts hi
      go_enter Try.func31, Try.ntmps31
      go_wp2_with fail
      refine wp_region_lex1 (fun w' => w'.cell? ⟨b, 2, none⟩ = some (.slice (some ⟨v.fed, 0, none⟩) m.fed.length m.fed.length) ∧ w'.cell? ⟨v.fed, x, none⟩ = some (.slice ra rl rc)) [0, 1, 2, 3, 4, 5, 6, 7, 8, 9, 10, 11, 12] [] 13 [14, 15] (by kernel_rfl) (by kernel_rfl) (by kernel_rfl) rfl (fun _ _ hx h => ⟨hx.cell h.1, hx.cell h.2⟩) ⟨c2, r1⟩ ?_
      intro Q' hQ'
      simp only [pickOps, List.flatMap_cons, List.flatMap_nil, List.drop_succ_cons, List.drop_zero, List.take_succ_cons, List.take_zero, List.cons_append, List.nil_append, List.append_nil]
      repeat (first
        | (refine wpReads_skip (by rfl) ?_; (try simp only [Act.put, List.setIfInBounds_toArray, List.set_cons_zero, List.set_cons_succ]))
        | (refine wpReads_cons ?_ (by rfl) (by rfl) ?_ ?_; rotate_left; (intro wz hz; (try dsimp only at hz); go_simp; try with_reducible rfl); (try simp only [Act.put, List.setIfInBounds_toArray, List.set_cons_zero, List.set_cons_succ]))
        | (refine wpReads_any ?_ (by rfl) ?_ ?_; rotate_left; (intro wz; go_simp; try with_reducible rfl); (try simp only [Act.put, List.setIfInBounds_toArray, List.set_cons_zero, List.set_cons_succ])))
      refine wpReads_nil ?_
      go_wp2_with (at_builtin; refine stop_here ?_)
      refine go_on ?_
      refine wpList_app_off rfl _ _ 37 rfl o (M + 16 + x) 3 i0 _ 8 Try.underlying37 HI.out hz0 hz1 hz2 rfl (.slice ra rl rc) (ivs (rowAt m.fed x)) rfl (HR.out.turn ((Turn.refl o (fun _ => False) _).drewN 1) (fun h => h)) ta ts.length tc (ivs ts) rfl (ivs_len _) HNO.out HNE.out (ivs_one _) (by rw [ivs_len]; have := HLE.out; unfold maxLen; omega) (grow_ok (by rw [ivs_len]; have := HLE.out; omega)) ?_
      intro v7 w7 T7 O7
      obtain ⟨sp7, cp7, hv7⟩ := O7.slice
      simp only [List.length_append, List.length_map] at hv7
      subst hv7
      have M7 := (HM.out.drewN 1).setFed (l := rowAt m.fed x ++ ts) hx T7 (by rw [ivs, List.map_append]; exact O7)
      have t2 := T7.cell c2 (by show ¬ o b = M + 16 + x; rw [HM.out.blk.2]; omega)
      have tr1 := T7.cell r1 (by show ¬ o v.fed = M + 16 + x; rw [HM.out.fed.blk.2]; omega)
      have X7 := (HM.out.drewN 1).fed.blk.turn T7 (by omega)
      have s2 := X7.frozen x
      have HM7 := Lib.hid M7
      clear M7 X7 T7 O7 HNE c2 r1
      go_wp2
      refine ⟨⟨t2, tr1⟩, ?_⟩
      clear t2
      go_wp2
      go_ret
      exact ⟨_, _, rfl, ((Turn.refl o (MineS M) w).drewN 1).trans (HM7.out.2.mono Mine.s) (fun _ h => h), HM7.out.1⟩
    · rw [if_neg (by unfold inIn; omega)]
      go_enter Try.func31, Try.ntmps31
      go_wp2
      go_ret
      exact ⟨rfl, rfl⟩

theorem FedRet.slot {w : World} {o : Col} {M b : Nat} {P : GProg} {m : MachP} {k : Int} {ts : List Int} {e : Ending} {w' : World} (h : FeedRet w o M b P m k ts e w') : ∃ y, e = .returned (.int .i64 y) := by
  unfold FeedRet at h
  split at h
  · obtain ⟨_, _, h, _⟩ := h
    exact ⟨_, h⟩
  · exact ⟨_, h.1⟩
set_option maxRecDepth 100000 in
theorem Feed_any {w : World} {o : Col} {M b ct : Nat} {P : GProg} {m : MachP} {v : MVals} {ta : Option Addr} {n tc : Nat} {ts : List Int} {o2 : Col} (h : MachAt w o M b P m v) (k : Int) (hts : Ints w o2 ct (.slice ta n tc) ts) (hl : (∀ r ∈ m.fed, r.length + ts.length ≤ 20000000000000)) :
    Calls Try.prog 10 #[.pointer (some ⟨b, 0, none⟩), .int .i64 k, .slice ta n tc] w (FeedRet w o M b P m k ts) := by
  have HM := Lib.hid h
  have HTS := Lib.hid hts
  clear h hts
  go_enter Try.func10, Try.ntmps10
  go_wp2_with fail
  refine (efeed_any HM.out k HTS.out hl).mono ?_
  intro e w1 H
  obtain ⟨y, rfl⟩ := FedRet.slot H
  have HH := Lib.hid H
  clear H
  go_wp2
  go_ret
  exact HH.out
end Go.Proofs.Ytnnnpippekpibaa

/- A region that draws its order: reads, then whatever is ready; what only looks at answers, later. No program in sight. -/
namespace Go.Proofs.Ytnnnpippekpibaa
section
variable {P : Program} {md : Region.Mode} {ops : Array Oper} {Q : Exit → Go.Act → World → Prop} {S : World → Prop}

def closedB (md : Region.Mode) (ops : Array Oper) (listed : Array Bool) : Bool :=
  (List.range ops.size).all fun j => !(listed.getD j false) || (match ops[j]? with | none => true | some o => o.after.all fun e => !(Region.binds md e) || listed.getD e.on false)
theorem closedL_of_B {listed : Array Bool} (h : closedB md ops listed = true) : closedL md ops listed := by
  intro j oj hj hl e he hb
  have hlt := (Array.getElem?_eq_some_iff.1 hj).1
  have h1 := List.all_eq_true.1 h j (List.mem_range.2 hlt)
  rw [hl, hj] at h1
  simp only [Bool.not_true, Bool.false_or] at h1
  have h2 := Array.all_eq_true'.1 h1 e he
  rw [hb] at h2
  simpa using h2
def hbeB (md : Region.Mode) (ops : Array Oper) (reads M : List Nat) : Bool :=
  Region.noSelect ops && (reads.all fun i => anyAt ops i || (List.range ops.size).all fun j => madeB ops j || reads.contains j || M.contains j || behindB md ops ops.size j i)
theorem hbe_of {reads M : List Nat} (h : hbeB md ops reads M = true) : Region.noSelect ops = true ∧ ∀ i ∈ reads, anyAt ops i = false → ∀ j, j < ops.size → madeB ops j = true ∨ reads.contains j = true ∨ M.contains j = true ∨ behindB md ops ops.size j i = true := by
  simp only [hbeB, Bool.and_eq_true, List.all_eq_true, List.mem_range, Bool.or_eq_true] at h
  refine ⟨h.1, fun i hi hany j hj => ?_⟩
  rcases h.2 i hi with h0 | h0
  · rw [hany] at h0; cases h0
  rcases h0 j hj with ((h1 | h1) | h1) | h1
  · exact .inl h1
  · exact .inr (.inl h1)
  · exact .inr (.inr (.inl h1))
  · exact .inr (.inr (.inr h1))

theorem wp_region_drift {id : Nat} {l : List Oper} {a : Go.Act} {w : World} (S : World → Prop) (reads M r : List Nat) (n : Nat) (hm : P.follows .mixedOrders = true)
    (hB : (hbeB .any l.toArray reads M && stageHead .any l.toArray (fun _ => true) r (Array.replicate l.toArray.size false) && r.all fun i => reads.contains i) = true) (hlen : r.length + n = l.length) (hS : S w.drew)
    (h : ∀ Q' : Exit → Go.Act → World → Prop, (∀ a w, Q .normal a w → Q' .normal a w) → (∀ c a a' w, Q' (.panic c) a w → Q' (.panic c) a' w) → wpReads P l.toArray S (fun a' => wpAnyT P .any l.toArray Q' S (bsOf l.toArray reads M) n (setAll (Array.replicate l.length false) r) a' w.drew) (pickOps l.toArray r) a) : (Code.region id l.toArray true).wp P Q a w := by
  refine wp_region_noPanic ?_
  refine wp_region_any hm ?_
  simp only [Bool.and_eq_true] at hB
  obtain ⟨⟨hb, hl⟩, hr⟩ := hB
  obtain ⟨hsel, hbe⟩ := hbe_of hb
  refine wpAny_of_T (S := S) (B := bsOf l.toArray reads M) _ _ _ _ ?_
  have key := wpAnyT_reads (P := P) (md := .any) (Q := NoPanic Q) (S := S) (reads := reads) (M := M) (n := n) hsel (fun c a a' w h => h) hbe r (Array.replicate l.toArray.size false) a { w with drawn := w.drawn + 1 } (fun i hi => by simpa using List.all_eq_true.1 hr i hi)
    (fun j oj _ hl => by rw [getD_replicate_false] at hl; cases hl) hl hS (by simpa using h (NoPanic Q) (fun _ _ h => NoPanic.normal h) (fun c a a' w h => h))
  rw [hlen] at key
  simpa using key
/-- what looks at answers alone, in whatever order -/
theorem wpAnyT_later {reads M : List Nat} {r : List Nat} {n : Nat} {listed : Array Bool} {a : Go.Act} {w : World} (hQ : ∀ c a a' w, Q (.panic c) a w → Q (.panic c) a' w)
    (hB : (hbeB md ops reads M && closedB md ops listed && stageHead md ops (fun _ => true) r listed && r.all fun i => reads.contains i) = true) (hS : S w) (h : wpReads P ops S (fun a' => wpAnyT P md ops Q S (bsOf ops reads M) n (setAll listed r) a' w) (pickOps ops r) a) : wpAnyT P md ops Q S (bsOf ops reads M) (r.length + n) listed a w := by
  simp only [Bool.and_eq_true] at hB
  obtain ⟨⟨⟨hb, hc⟩, hl⟩, hr⟩ := hB
  obtain ⟨hsel, hbe⟩ := hbe_of hb
  exact wpAnyT_reads hsel hQ hbe r listed a w (fun i hi => by simpa using List.all_eq_true.1 hr i hi) (closedL_of_B hc) hl hS h
/-- three are ready -/
theorem wpAnyT_three {B : Nat → Bool} {n i k m : Nat} {listed : Array Bool} {a : Go.Act} {w : World} (hr : Region.ready md ops listed = [i, k, m]) (h : wpList P ops (EndK Q fun a' w' => (B i = true → S w → S w') ∧ wpAnyT P md ops Q S B n (listed.setIfInBounds i true) a' w') (pickOps ops [i]) a w)
    (h' : wpList P ops (EndK Q fun a' w' => (B k = true → S w → S w') ∧ wpAnyT P md ops Q S B n (listed.setIfInBounds k true) a' w') (pickOps ops [k]) a w)
    (h'' : wpList P ops (EndK Q fun a' w' => (B m = true → S w → S w') ∧ wpAnyT P md ops Q S B n (listed.setIfInBounds m true) a' w') (pickOps ops [m]) a w) : wpAnyT P md ops Q S B (n + 1) listed a w := by
  have hi : i ∈ Region.ready md ops listed := by rw [hr]; simp
  have hk : k ∈ Region.ready md ops listed := by rw [hr]; simp
  have hm : m ∈ Region.ready md ops listed := by rw [hr]; simp
  refine ⟨fun h0 => (by rw [h0] at hr; cases hr), fun j hj => ?_⟩
  rw [hr] at hj
  rcases List.mem_cons.1 hj with rfl | hj
  · exact wpOp_of_list (ready_lt hi) h
  rcases List.mem_cons.1 hj with rfl | hj
  · exact wpOp_of_list (ready_lt hk) h'
  · obtain rfl : j = m := by simpa using hj
    exact wpOp_of_list (ready_lt hm) h''
end
end Go.Proofs.Ytnnnpippekpibaa

/- A new machine: its parts, one by one; tokens copied into the memory. -/
namespace Go.Proofs.Ytnnnpippekpibaa
open Go.RowKit

section
variable {w w1 : World} {o o1 : Col} {M b : Nat} {P : GProg} {m : MachP} {v : MVals}
/-- the machine without its parts' rows -/
structure MachCore (w : World) (o : Col) (M b : Nat) (P : GProg) (m : MachP) (v : MVals) : Prop where
  blk : Blk w o M b 72 (machV m v).toArray
  mem : Blk w o (M + 1) v.mem 3 (ivs m.mem).toArray
  lines : Own w o (M + 2) 78 4 v.lines m.lines.length (linesV m.lines)
  fed : Rows2 w o (M + 3) (M + 16) v.fed m.fed v.feds
  out : Rows2 w o (M + 4) (M + 32) v.out m.out v.outs
  ops : Own w o (M + 5) 43 3 v.ops P.ops.length (opsV P.ops)
  acts : ∀ k (_ : k < P.parts.length), ∃ B, v.ptrs[k]? = some B ∧ ActM w o (M + 64 + 2 * k) (M + 65 + 2 * k) B (partAt P k) (bodAt m k)
  cs : Blk w o (M + 8) v.cs 3 (ivs m.cs).toArray
  hand : OffRow w o (M + 9) 3 v.hand (ivs m.hand)
  small : m.fed.length ≤ 16 ∧ m.out.length ≤ 16 ∧ P.parts.length ≤ 32
theorem MachAt.core (h : MachAt w o M b P m v) : MachCore w o M b P m v :=
  ⟨h.blk, h.mem, h.lines, h.fed, h.out, h.ops, fun k hk => ⟨v.ptrs[k]'(by rw [h.ptrs]; exact hk), List.getElem?_eq_getElem (by rw [h.ptrs]; exact hk), h.acts k hk⟩, h.cs, h.hand, h.small⟩
theorem MachCore.turn {C : Nat → Prop} (h : MachCore w o M b P m v) (T : Turn o o1 C w w1) (hC : ∀ k, C k → ¬ Mine M k ∨ k = M + 6 ∨ k = M + 7) : MachCore w1 o1 M b P m v := by
  have hn : ∀ k, k < 200 → k ≠ 6 → k ≠ 7 → ¬ C (M + k) := fun k hk h6 h7 hc => by
    rcases hC _ hc with h | h | h
    · exact h (by unfold Mine; omega)
    · omega
    · omega
  have hs := h.small
  exact ⟨h.blk.turn T (hn 0 (by omega) (by omega) (by omega)), h.mem.turn T (hn _ (by omega) (by omega) (by omega)), h.lines.turn T (hn _ (by omega) (by omega) (by omega)), h.fed.turn T (hn _ (by omega) (by omega) (by omega)) (fun k hk => by rw [Nat.add_assoc]; exact hn _ (by omega) (by omega) (by omega)), h.out.turn T (hn _ (by omega) (by omega) (by omega)) (fun k hk => by rw [Nat.add_assoc]; exact hn _ (by omega) (by omega) (by omega)), h.ops.turn T (hn _ (by omega) (by omega) (by omega)), fun k hk => by
      obtain ⟨B, e, ha⟩ := h.acts k hk
      exact ⟨B, e, ha.turn T (by rw [Nat.add_assoc]; exact hn _ (by omega) (by omega) (by omega)) (by rw [Nat.add_assoc]; exact hn _ (by omega) (by omega) (by omega))⟩, h.cs.turn T (hn _ (by omega) (by omega) (by omega)), h.hand.turn T (hn _ (by omega) (by omega) (by omega)), hs⟩

set_option maxRecDepth 100000 in
/-- tokens are copied into the memory -/
theorem copy_lay {g : Nat} {mem st : List Int} {base sc c c2 : Nat} {sa : Option Addr} {o2 : Col} (hb : Blk w o c g 3 (ivs mem).toArray) (hs : Ints w o2 c2 (.slice sa st.length sc) st) (hl : base + st.length ≤ mem.length) (ty : TypeId) :
    (Builtin.copy_ #[37, 37] ty #[.slice (if mem.length = base then some ⟨g, 0, none⟩ else some ⟨g, base, none⟩) (mem.length - base) (mem.length - base), .slice sa st.length sc]).run Try.prog w =
      .ok (goInt st.length) (w.setRow g (ivs (mem.take base ++ st ++ mem.drop (base + st.length))).toArray) ∧
    Blk (w.setRow g (ivs (mem.take base ++ st ++ mem.drop (base + st.length))).toArray) o c g 3 (ivs (mem.take base ++ st ++ mem.drop (base + st.length))).toArray ∧
    Turn o o (fun x => x = c) w (w.setRow g (ivs (mem.take base ++ st ++ mem.drop (base + st.length))).toArray) := by
  have hsz : (Try.prog.info? 3).map (·.size) = some 1 := by kernel_rfl
  refine ⟨?_, ⟨setRow_heap w g _ _ _ _ hb.1, hb.2⟩, ⟨⟨rfl, rfl, rfl, by simp, fun k hk hf => setRow_other w g k _ (fun e => hf (by rw [e]; exact hb.2))⟩, fun _ _ => rfl⟩⟩
  by_cases h0 : st.length = 0
  · obtain rfl : st = [] := List.eq_nil_of_length_eq_zero h0
    have e : mem.take base ++ [] ++ mem.drop (base + ([] : List Int).length) = mem := by simp
    rw [e, setRow_self w g _ _ (0, 0) hb.1]
    exact run_copy_none w 37 37 ty 3 _ _ _ _ _ _ Try.underlying37 hsz (by simp)
  · have hne : ¬ mem.length = base := by omega
    rw [if_neg hne]
    obtain ⟨hnone, hnews⟩ := Vals.news hs
    cases sa with
    | none => have := hnone rfl; omega
    | some a =>
      have hr := run_copy_row (P := Try.prog) w 37 37 ty 3 g base (mem.length - base) (mem.length - base) a st.length sc (ivs mem).toArray 3 (ivs st) Try.underlying37 hsz hb.1 (by rw [ivs_len]; exact (Nat.min_eq_left (by omega)).symm) (hnews a rfl) (by rw [ivs_len]; simp; omega) (ivs_one st)
      rw [ivs_len] at hr
      rw [hr]
      have e : (ivs mem).take base ++ ivs st ++ (ivs mem).drop (base + st.length) = ivs (mem.take base ++ st ++ mem.drop (base + st.length)) := by simp [ivs, List.map_take, List.map_drop]
      show Result.ok _ (w.setRow g ((ivs mem).take base ++ ivs st ++ (ivs mem).drop (base + st.length)).toArray) = _
      rw [e]
/-- the memory is another -/
theorem MachAt.setMemAll {l : List Int} (h : MachAt w o M b P m v) (T : Turn o o1 (fun x => x = M + 1) w w1) (hb : Blk w1 o1 (M + 1) v.mem 3 (ivs l).toArray) (hl : l.length = m.mem.length) : MachAt w1 o1 M b P { m with mem := l } v := by
  have hv : machV { m with mem := l } v = machV m v := by
    unfold machV
    simp only [hl]
  exact ⟨by rw [hv]; exact h.blk.turn T (by omega), hb, h.lines.turn T (by omega), h.fed.turn T (by omega) (fun k _ => by omega), h.out.turn T (by omega) (fun k _ => by omega), h.ops.turn T (by omega), h.takes.turn T (by omega), h.bods.turn T (by omega), h.ptrs, fun k hk => (h.acts k hk).turn T (by omega) (by omega), h.cs.turn T (by omega), h.hand.turn T (by omega), h.small⟩
/-- the lines are others -/
theorem MachAt.setLines {l : List LineP} {lv : Value} (h : MachAt w o M b P m v) (T : Turn o o1 (fun x => x = M + 2) w w1) (hb : Own w1 o1 (M + 2) 78 4 lv l.length (linesV l)) :
    MachAt (w1.setCell ⟨b, 1, none⟩ lv) o1 M b P { m with lines := l } { v with lines := lv } ∧ Turn o o1 (Mine M) w (w1.setCell ⟨b, 1, none⟩ lv) := by
  have hbk := h.blk.turn T (by omega)
  have hs := hbk.set 1 lv
  have T2 : Turn o o1 (fun x => x = M + 2 ∨ x = M) w (w1.setCell ⟨b, 1, none⟩ lv) := (T.mono (fun x hx => Or.inl hx)).trans hs.2 (fun x hx => Or.inr hx)
  exact ⟨⟨by have := hs.1; rw [List.setIfInBounds_toArray] at this; exact this, h.mem.turn T2 (by omega), hb.turn hs.2 (by omega), h.fed.turn T2 (by omega) (fun k _ => by omega), h.out.turn T2 (by omega) (fun k _ => by omega), h.ops.turn T2 (by omega), h.takes.turn T2 (by omega), h.bods.turn T2 (by omega), h.ptrs, fun k hk => (h.acts k hk).turn T2 (by omega) (by omega), h.cs.turn T2 (by omega), h.hand.turn T2 (by omega), h.small⟩, T2.mono (fun x hx => by unfold Mine; omega)⟩
end

/-- the first k parts -/
def firstP (P : GProg) (k : Nat) : GProg := { P with parts := P.parts.take k }
def bodsP (P : GProg) (k : Nat) : List (List Int × Int) := (P.parts.take k).map fun p => (keep0 p.tag p.params, 0)
/-- a machine whose first k parts are there -/
def partM (P : GProg) (k : Nat) : MachP := ⟨newMem P P.lines.length, P.lines.map newLine, List.replicate P.ins.toNat [], List.replicate P.outs.toNat [], bodsP P k, List.replicate P.counters.toNat 0, [], 0, 0, none⟩
/-- a machine whose first k lines are there, and no part -/
def lineM (P : GProg) (k : Nat) : MachP := ⟨newMem P k, (P.lines.take k).map newLine, List.replicate P.ins.toNat [], List.replicate P.outs.toNat [], [], List.replicate P.counters.toNat 0, [], 0, 0, none⟩
theorem partM_all (P : GProg) : partM P P.parts.length = newP P := by
  unfold partM newP bodsP
  rw [List.take_length]
theorem lineM_all (P : GProg) : lineM P P.lines.length = partM P 0 := by
  unfold lineM partM bodsP
  rw [List.take_length, List.take_zero]
  rfl
theorem firstP_all (P : GProg) : firstP P P.parts.length = P := by
  unfold firstP
  rw [List.take_length]
theorem partAt_first {P : GProg} {k j : Nat} (h : j < k) (_hk : k ≤ P.parts.length) : partAt (firstP P k) j = partAt P j := by
  unfold partAt firstP
  rw [List.getElem?_take_of_lt h]
theorem bodAt_part {P : GProg} {k j : Nat} (h : j < k) (hk : k ≤ P.parts.length) : bodAt (partM P k) j = (keep0 (partAt P j).tag (partAt P j).params, 0) := by
  unfold bodAt partM bodsP partAt
  have hj : j < P.parts.length := by omega
  rw [List.getElem?_map, List.getElem?_take_of_lt h, List.getElem?_eq_getElem hj]
  rfl
end Go.Proofs.Ytnnnpippekpibaa

/- A machine whose colours are told anew. No function in sight. -/
namespace Go.Proofs.Ytnnnpippekpibaa
open Go.RowKit

section
variable {w : World} {o o' : Col}
theorem Vals.recolor {c : Nat} {v : Value} {vs : List Value} (h : Vals w o c v vs) (ho : ∀ k, o k = c → o' k = c) : Vals w o' c v vs := by
  rcases h with h | ⟨hp, b, off, cap, e, hl, hb, hc, hcl⟩
  · exact .inl h
  · exact .inr ⟨hp, b, off, cap, e, hl, hb, ho b hc, hcl⟩
theorem OffRow.recol {c : Nat} {e : TypeId} {v : Value} {xs : List Value} (h : OffRow w o c e v xs) (ho : ∀ k, o k = c → o' k = c) : OffRow w o' c e v xs := by
  rcases h with h | ⟨g, off, cap, cur, h1, h2, h3, h4⟩
  · exact .inl h
  · exact .inr ⟨g, off, cap, cur, h1, h2, ho g h3, h4⟩
theorem Rows2.recol {c d g : Nat} {l : List (List Int)} {vs : List Value} (h : Rows2 w o c d g l vs) (ho : ∀ k, o k = c → o' k = c) (hd : ∀ j, j < l.length → ∀ k, o k = d + j → o' k = d + j) : Rows2 w o' c d g l vs :=
  ⟨h.len, h.blk.recol (ho g h.blk.2), fun k hk => (h.row k hk).recol (hd k hk)⟩
theorem BodyAt.recol {c d b : Nat} {t : Int} {ps keep : List Int} {n : Int} {K : Nat} {vi vo vt vs : Value} (h : BodyAt w o c d b t ps keep n K vi vo vt vs) (hc : ∀ k, o k = c → o' k = c) (hd : ∀ k, o k = d → o' k = d) : BodyAt w o' c d b t ps keep n K vi vo vt vs :=
  ⟨h.body.recol (hd b h.body.2), h.kind.recol (hc K h.kind.2), h.ins.recolor hd, h.outs.recolor hd, fun e => ⟨(h.taps e).1.recolor hd, (h.taps e).2.1.recolor hd, (h.taps e).2.2⟩, h.good, h.fitp, h.fitk, h.keep1, h.keep2, h.fitn, h.ne⟩
theorem Act.recol {c d b : Nat} {t : Int} {ps keep : List Int} {n : Int} (h : Act w o c d b t ps keep n) (hc : ∀ k, o k = c → o' k = c) (hd : ∀ k, o k = d → o' k = d) : Act w o' c d b t ps keep n := by
  obtain ⟨K, vi, vo, vt, vs, h⟩ := h
  exact ⟨K, vi, vo, vt, vs, h.recol hc hd⟩
theorem MachAt.recol {M b : Nat} {P : GProg} {m : MachP} {v : MVals} (h : MachAt w o M b P m v) (ho : ∀ k, Mine M (o k) → o' k = o k) : MachAt w o' M b P m v := by
  have hs := h.small
  have hx : ∀ j, j < 200 → ∀ k, o k = M + j → o' k = M + j := fun j hj k hk => by rw [ho k (by rw [hk]; unfold Mine; omega), hk]
  have h0 : ∀ k, o k = M → o' k = M := hx 0 (by omega)
  exact ⟨h.blk.recol (h0 b h.blk.2), h.mem.recol (hx 1 (by omega) _ h.mem.2), h.lines.recol (fun k hk => hx 2 (by omega) k (h.lines.2 k hk)), h.fed.recol (hx 3 (by omega)) (fun j hj k hk => by rw [Nat.add_assoc] at hk ⊢; exact hx _ (by omega) k hk),
    h.out.recol (hx 4 (by omega)) (fun j hj k hk => by rw [Nat.add_assoc] at hk ⊢; exact hx _ (by omega) k hk), h.ops.recol (fun k hk => hx 5 (by omega) k (h.ops.2 k hk)), h.takes.recol (fun k hk => hx 6 (by omega) k (h.takes.2 k hk)), h.bods.recol (fun k hk => hx 7 (by omega) k (h.bods.2 k hk)), h.ptrs,
    fun j hj => Act.recol (h.acts j hj) (fun k hk => by rw [Nat.add_assoc] at hk ⊢; exact hx _ (by omega) k hk) (fun k hk => by rw [Nat.add_assoc] at hk ⊢; exact hx _ (by omega) k hk), h.cs.recol (hx 8 (by omega) _ h.cs.2), h.hand.recol (hx 9 (by omega)), hs⟩
end

/-- a new machine: all new blocks have colours from M on, below M + 300 -/
def MadeRet (w : World) (o : Col) (M : Nat) (P : GProg) (e : Ending) (w' : World) : Prop :=
  ∃ b o' v, e = .returned (.tuple #[.pointer (some ⟨b, 0, none⟩), .int .i64 0]) ∧ Turn o o' (fun _ => False) w w' ∧ MachAt w' o' M b P (newP P) v ∧ ∀ k, w.heap.size ≤ k → M ≤ o' k ∧ o' k < M + 300
def NewRet (w : World) (o : Col) (M : Nat) (P : GProg) : Ending → World → Prop :=
  if checkC P ≠ 0 then fun e w' => e = .returned (.tuple #[.pointer none, .int .i64 (checkC P)]) ∧ Below w.heap.size w w' else MadeRet w o M P
theorem made_ret {w w' : World} {o q : Col} {M b : Nat} {P : GProg} {v : MVals} (hM : 1 ≤ M) (K : Kept w.heap.size q w w') (h : MachAt w' q M b P (newP P) v) : MadeRet w o M P (.returned (.tuple #[.pointer (some ⟨b, 0, none⟩), .int .i64 0])) w' := by
  refine ⟨b, fun k => if k < w.heap.size then o k else if M ≤ q k ∧ q k < M + 300 then q k else M + 299, v, rfl, ⟨Mods.of_below K.below _, fun k hk => by simp [hk]⟩, h.recol (fun k hk => ?_), fun k hk => ?_⟩
  · have : ¬ k < w.heap.size := fun hlt => by
      have := K.old k hlt
      unfold Mine at hk
      omega
    unfold Mine at hk
    simp only [if_neg this]
    rw [if_pos (by omega)]
  · simp only [if_neg (Nat.not_lt.2 hk)]
    split <;> omega
end Go.Proofs.Ytnnnpippekpibaa

/- A part is added. No function in sight. -/
namespace Go.Proofs.Ytnnnpippekpibaa
open Go.RowKit

def ptrV (b : Nat) : Value := .pointer (some ⟨b, 0, none⟩)
def takesL (P : GProg) (k : Nat) : List Int := (P.parts.take k).map fun p => (takesP p : Int)
theorem takesL_succ {P : GProg} {k : Nat} (h : k < P.parts.length) : ivs (takesL P (k + 1)) = ivs (takesL P k) ++ [.int .i64 (takesP (partAt P k) : Int)] := by
  unfold takesL
  rw [List.take_succ_eq_append_getElem h, part_get h, List.map_append, ivs, List.map_append]
  rfl
theorem firstP_len {P : GProg} {k : Nat} (h : k ≤ P.parts.length) : (firstP P k).parts.length = k := by
  show (P.parts.take k).length = k
  rw [List.length_take]
  omega
theorem add_part {w : World} {q : Col} {M b B k : Nat} {P : GProg} {v : MVals} {bv tv : Value} (hP : P.parts.length ≤ 32) (h : MachCore w q M b (firstP P k) (partM P k) v) (hk : k < P.parts.length) (hpl : v.ptrs.length = k) (hB : Own w q (M + 7) 82 1 bv (k + 1) ((v.ptrs ++ [B]).map ptrV)) (hT : Own w q (M + 6) 3 1 tv (k + 1) (ivs (takesL P (k + 1)))) (hA : ActM w q (M + 64 + 2 * k) (M + 65 + 2 * k) B (partAt P k) (keep0 (partAt P k).tag (partAt P k).params, 0)) :
    MachAt ((w.setCell ⟨b, 6, none⟩ bv).setCell ⟨b, 5, none⟩ tv) q M b (firstP P (k + 1)) (partM P (k + 1)) { v with bods := bv, takes := tv, ptrs := v.ptrs ++ [B] } ∧ Turn q q (fun x => x = M) w ((w.setCell ⟨b, 6, none⟩ bv).setCell ⟨b, 5, none⟩ tv) := by
  obtain ⟨b1, T1⟩ := h.blk.set 6 bv
  obtain ⟨b2, T2⟩ := b1.set 5 tv
  have T := T1.trans T2 (fun _ h => h)
  have hl := firstP_len (P := P) (k := k + 1) hk
  refine ⟨⟨?_, h.mem.turn T (by omega), h.lines.turn T (by omega), h.fed.turn T (by omega) (fun k _ => by omega), h.out.turn T (by omega) (fun k _ => by omega), h.ops.turn T (by omega), ?_, ?_, ?_, fun j hj => ?_, h.cs.turn T (by omega), h.hand.turn T (by omega), ⟨h.small.1, h.small.2.1, by rw [hl]; omega⟩⟩, T⟩
  · simp only [List.setIfInBounds_toArray] at b2
    exact b2
  · rw [hl]
    exact hT.turn T (by omega)
  · rw [hl]
    exact hB.turn T (by omega)
  · rw [hl, List.length_append, hpl]
    rfl
  · rw [hl] at hj
    rw [partAt_first hj hk, bodAt_part hj hk]
    by_cases e : j < k
    · obtain ⟨B', e1, ha⟩ := h.acts j (by rw [firstP_len (by omega)]; exact e)
      rw [partAt_first e (by omega), bodAt_part e (by omega)] at ha
      have e2 : (v.ptrs ++ [B])[j]? = some B' := by rw [List.getElem?_append_left (by omega)]; exact e1
      have e3 : (v.ptrs ++ [B])[j]'(by simp; omega) = B' := by
        rw [List.getElem?_eq_getElem (by simp; omega)] at e2
        exact Option.some.inj e2
      show ActM _ _ _ _ ((v.ptrs ++ [B])[j]'_) _ _
      rw [e3]
      exact ha.turn T (by omega) (by omega)
    · obtain rfl : j = k := by omega
      have e3 : (v.ptrs ++ [B])[j]'(by simp; omega) = B := by
        simp [hpl]
      show ActM _ _ _ _ ((v.ptrs ++ [B])[j]'_) _ _
      rw [e3]
      exact hA.turn T (by omega) (by omega)
theorem blk_news {w : World} {o : Col} {c g : Nat} {t : TypeId} {x : Value} (h : Blk w o c g t #[x]) : ∀ ad, some (⟨g, 0, none⟩ : Addr) = some ad → ∀ j u, [x][j]? = some u → w.cell? (ad.add j) = some u := fun ad e j u hu => by
  obtain rfl := Option.some.inj e
  rw [Addr.add_lit, Nat.zero_add]
  exact h.cell j u (by simpa using hu)
/-- a row of the call's own grows -/
theorem own_grown {w w' : World} {o : Col} {c e sz n m : Nat} {v v' : Value} {xs ys : List Value} (h : Own w o c e sz v n xs) (k1 : w'.ownsRow 0 e sz v' (n + m) (xs ++ ys)) (k2 : w.grownBy w' v.ownBlock) (k4 : v'.ownBlock = v.ownBlock ∨ v'.ownBlock = some w.heap.size) :
    ∃ o', Turn o o' (fun x => x = c) w w' ∧ Own w' o' c e sz v' (n + m) (xs ++ ys) := by
  refine ⟨ext o w.heap.size c, Turn.of_mods o c (Mods.of_grownBy k2) (fun b _ hb => h.2 b hb), k1, fun b hb => ?_⟩
  rcases k4 with k4 | k4
  · rw [k4] at hb
    exact (ext_old (h.1.lt b hb).2).trans (h.2 b hb)
  · rw [k4] at hb
    exact ext_new (Nat.le_of_eq (Option.some.inj hb))
theorem sum_take_le : ∀ (l : List Int) (t : Nat), (∀ r ∈ l, 1 ≤ r ∧ r ≤ 64) → 0 ≤ (l.take t).sum ∧ (l.take t).sum ≤ 64 * t
  | [], t, _ => by simp; omega
  | r :: l, 0, _ => by simp
  | r :: l, t + 1, h => by
    have h1 := h r List.mem_cons_self
    have h2 := sum_take_le l t (fun x hx => h x (List.mem_cons_of_mem _ hx))
    rw [List.take_succ_cons, List.sum_cons]
    omega
end Go.Proofs.Ytnnnpippekpibaa
