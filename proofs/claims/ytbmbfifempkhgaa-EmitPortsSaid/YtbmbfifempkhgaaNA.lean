/- nest's checker: one. -/
import Derived.Test.YtbmbfifempkhgaaProg
import Derived.Test.YtbmbfifempkhgaaSmall
import Derived.Test.YtbmbfifempkhgaaNLaw
import Derived.Deep.QuietTactic
import Derived.BigQuiet
namespace Go.Proofs.Ytbmbfifempkhgaa
open Go.RowKit

/-- what the checker's methods answer -/
def NRet (w : World) (o : Col) (K : Nat) (r : Int × Nat) (e : Ending) (w' : World) : Prop := e = .returned (.int .i64 r.1) ∧ ∃ o', Turn o o' (fun x => x = 1) w w' ∧ Blk w' o' 1 K 145 #[.int .i64 r.2]

/-- the contract of 'row', for nests no deeper than D -/
def RowOk (D : Nat) : Prop := ∀ (w0 w : World) (o : Col) (K : Nat) (v : Value) (l : Nest) (dep n : Nat), HasNestD D w0 v l → NSized l → Kept w0.heap.size o w0 w → Blk w o 1 K 145 #[.int .i64 n] → n ≤ 2048 → dep ≤ 16 →
  Calls Try.prog 77 #[.pointer (some ⟨K, 0, none⟩), v, .int .i64 dep] w (NRet w o K (nestE l dep n))

theorem oneE_leaves (t nd : Int) (b : Nest) (d n : Nat) (h : (oneE t nd b d n).1 = 0) : n < 2048 := by
  refine Nat.lt_of_not_le fun hn => ?_
  unfold oneE at h
  rw [if_pos hn] at h
  cases h


set_option maxRecDepth 100000 in
set_option maxHeartbeats 1000000 in
theorem none_of {D : Nat} (hrow : RowOk D) (w0 w : World) (o : Col) (K : Nat) (v : Value) (t nd : Int) (b : Nest) (dep n : Nat) (hv : HasNestD D w0 v b) (hl : NSized b) (hk : Kept w0.heap.size o w0 w) (hb : Blk w o 1 K 145 #[.int .i64 n]) (hn : n ≤ 2048) (hd : dep ≤ 16) :
    Calls Try.prog 101 #[.pointer (some ⟨K, 0, none⟩), .agg #[.int .i64 t, .int .i64 nd, v], .int .i64 dep] w (NRet w o K (oneE t nd b dep n)) := by
  obtain ⟨ao, cap, rfl⟩ := nestD_slice D hv
  have hbX := below_alloc w (.cells #[.int .i64 t, .int .i64 nd, .slice ao b.items.length cap] 51)
  have hX := heap_alloc_new w (.cells #[.int .i64 t, .int .i64 nd, .slice ao b.items.length cap] 51)
  have hK1 := hb.turn (Turn.of_below o 7 hbX) (fun h => h)
  have hnil := isNil_len b
  have HT := Lib.hid ((Turn.of_below o 7 hbX).mono (D := fun x => x = 1) (fun _ h => h.elim))
  have HKe := Lib.hid (hk.of_below 7 hbX)
  have HK1 := Lib.hid hK1
  have HV := Lib.hid hv
  have HROW := Lib.hid hrow
  have HL := Lib.hid hl
  have x0 := cells_row _ _ hX 0 _ rfl
  have x1 := cells_row _ _ hX 1 _ rfl
  have x2 := cells_row _ _ hX 2 _ rfl
  have k0 := hK1.cell 0 _ rfl
  have kf := hK1.frozen 0
  obtain ⟨r, hr⟩ : ∃ r, oneE t nd b dep n = r := ⟨_, rfl⟩
  rw [hr]
  unfold oneE at hr
  have hrow1 := Lib.hid (fun o' (h1 : Kept w0.heap.size o' w0 (w.alloc (.cells #[.int .i64 t, .int .i64 nd, .slice ao b.items.length cap] 51))) h2 h3 => HROW.out w0 _ o' K (.slice ao b.items.length cap) b (dep + 1) n hv hl h1 h2 hn h3)
  clear hbX hX hb hK1 hk hv hrow hl HV HL
  generalize hm : b.items.length = m at *
  have hni : (n : Int) ≤ 2048 := by omega
  by_cases h1 : 2048 ≤ n
  · have h1i : (2048 : Int) ≤ n := by omega
    rw [if_pos h1] at hr
    subst hr
    go_enter Try.func101, Try.ntmps101
    go_wp2
    go_ret
    exact ⟨rfl, _, HT.out, HK1.out⟩
  have h1i : ¬ (2048 : Int) ≤ n := by omega
  rw [if_neg h1] at hr
  by_cases hz : m = 0
  · -- a leaf
    subst hz
    rw [hnil] at hr
    simp only [decide_true, Bool.not_true, Bool.false_and, Bool.true_and] at hr
    rw [if_neg (by simp)] at hr
    by_cases h3 : t < 1
    · rw [if_pos h3] at hr
      subst hr
      go_enter Try.func101, Try.ntmps101
      go_wp2
      go_ret
      exact ⟨rfl, _, HT.out, HK1.out⟩
    rw [if_neg h3, if_neg (by simp)] at hr
    by_cases h5 : nd < 0
    · have : (decide (nd < 0) || decide (32 ≤ nd)) = true := by simp [h5]
      rw [if_pos this] at hr
      subst hr
      go_enter Try.func101, Try.ntmps101
      go_wp2
      go_ret
      exact ⟨rfl, _, HT.out, HK1.out⟩
    by_cases h6 : 32 ≤ nd
    · have : (decide (nd < 0) || decide (32 ≤ nd)) = true := by simp [h6]
      rw [if_pos this] at hr
      subst hr
      go_enter Try.func101, Try.ntmps101
      go_wp2
      go_ret
      exact ⟨rfl, _, HT.out, HK1.out⟩
    have : (decide (nd < 0) || decide (32 ≤ nd)) = false := by simp; omega
    rw [this, if_neg (by simp), if_pos (by simp)] at hr
    subst hr
    have HSET := Lib.hid (HK1.out.set 0 (.int .i64 ((n : Int) + 1)))
    go_enter Try.func101, Try.ntmps101
    go_wp2
    go_ret
    exact ⟨rfl, _, HT.out.trans HSET.out.2 (fun x e => e), HSET.out.1⟩
  · -- a body
    have hzi : ((m : Int) == 0) = false := by rw [beq_eq_false_iff_ne]; omega
    rw [hnil, decide_eq_false hz] at hr
    simp only [Bool.not_false, Bool.true_and, Bool.false_and] at hr
    by_cases h2 : 16 ≤ dep
    · have h2i : (16 : Int) ≤ dep := by omega
      rw [if_pos (by simpa using h2)] at hr
      subst hr
      go_enter Try.func101, Try.ntmps101
      go_wp2
      go_ret
      exact ⟨rfl, _, HT.out, HK1.out⟩
    have h2i : ¬ (16 : Int) ≤ dep := by omega
    rw [if_neg (by simpa using h2)] at hr
    by_cases h3 : t < 1
    · rw [if_pos h3] at hr
      subst hr
      go_enter Try.func101, Try.ntmps101
      go_wp2
      go_ret
      exact ⟨rfl, _, HT.out, HK1.out⟩
    rw [if_neg h3] at hr
    by_cases h4 : nd = 0
    · rw [if_neg (by simpa using h4), if_neg (by simp), if_neg (by simp)] at hr
      subst hr
      subst h4
      go_enter Try.func101, Try.ntmps101
      go_wp2_with fail
      have hc : (((dep + 1 : Nat)) : Int) = (dep : Int) + 1 := by omega
      have hcall := hrow1.out _ HKe.out HK1.out (by omega)
      rw [hc] at hcall
      refine hcall.mono ?_
      rintro e w4 ⟨rfl, o4, T4, hK4⟩
      have HT4 := Lib.hid (HT.out.trans T4 (fun _ h => h))
      have HK4 := Lib.hid hK4
      clear T4 hK4 hcall
      go_wp2
      go_ret
      exact ⟨rfl, _, HT4.out, HK4.out⟩
    · have h4i : (nd == 0) = false := by simpa using h4
      rw [if_pos (by simpa using h4)] at hr
      subst hr
      go_enter Try.func101, Try.ntmps101
      go_wp2
      go_ret
      exact ⟨rfl, _, HT.out, HK1.out⟩
end Go.Proofs.Ytbmbfifempkhgaa

/- nest's checker: row. -/
namespace Go.Proofs.Ytbmbfifempkhgaa
open Go.RowKit

set_option maxRecDepth 100000 in
theorem nrow_zero : RowOk 0 := by
  intro w0 w o K v l dep n hv hs hk hb hn hd
  obtain ⟨rfl, ao, cap, rfl⟩ := hv
  have HT := Lib.hid (Turn.refl o (fun x => x = 1) w)
  have HB := Lib.hid hb
  clear hk hb hs
  go_enter Try.func77, Try.ntmps77
  go_wp2_with fail
  go_loopw [12] (fun i wr => i = .int .i64 0 ∧ wr = w) (fun _ _ => 0)
  case atStart => exact ⟨rfl, rfl⟩
  case round =>
    obtain ⟨rfl, rfl⟩ := hrel
    go_wp2
    go_ret
    exact ⟨rfl, _, HT.out, HB.out⟩

set_option maxRecDepth 100000 in
set_option maxHeartbeats 1000000 in
theorem nrow_succ {D : Nat} (hrow : RowOk D) : RowOk (D + 1) := by
  intro w0 w o K v l dep n hv hs hk hb hn hd
  have hv' : Recs w0 3 (fun w x cs => ∃ y, cs = [.int .i64 x.1, .int .i64 x.2.1, y] ∧ HasNestD D w y x.2.2) v l.items := hv
  obtain ⟨ao, cap, rfl⟩ := hv'.slice
  obtain ⟨r, hr⟩ : ∃ r, nestE l dep n = r := ⟨_, rfl⟩
  rw [hr]
  have HE := Lib.hid (show nestE (l.drop 0) dep n = r by rw [drop_zero]; exact hr)
  have HV := Lib.hid hv'
  have HS := Lib.hid hs
  have HL := Lib.hid (nsized_len hs)
  have HROW := Lib.hid hrow
  have HT0 := Lib.hid (Turn.refl o (fun x => x = 1) w)
  have HK0 := Lib.hid hk
  have HB0 := Lib.hid hb
  have hdi : (dep : Int) ≤ 16 := by omega
  clear hv hv' hs hk hb hrow hr
  go_enter Try.func77, Try.ntmps77
  go_wp2_with fail
  go_loopw [12] (fun i wr => ∃ (j : Nat) (q : Col) (m : Nat), j ≤ l.items.length ∧ i = .int .i64 j ∧ Kept w0.heap.size q w0 wr ∧ Turn o q (fun x => x = 1) w wr ∧ Blk wr q 1 K 145 #[.int .i64 m] ∧ m ≤ 2048 ∧ nestE (l.drop j) dep m = r) (fun i _ => l.items.length - (intOf i).toNat)
  case atStart => exact ⟨0, o, n, Nat.zero_le _, rfl, HK0.out, HT0.out, HB0.out, hn, HE.out⟩
  case round =>
    clear HK0 HT0 HB0 HE
    obtain ⟨j, q, m, hj, rfl, hK, hT, hB, hm, hE⟩ := hrel
    have HK := Lib.hid hK
    have HT := Lib.hid hT
    have HB := Lib.hid hB
    have HE := Lib.hid hE
    clear hK hT hB hE
    by_cases hlt : j < l.items.length
    · have hlti : (j : Int) < l.items.length := by omega
      obtain ⟨b0, off, rfl, hcap, hb0, hrec⟩ := HV.out.at (by omega)
      obtain ⟨cs, hcs, hPR, hcl⟩ := hrec j hlt
      obtain ⟨y, rfl, hy⟩ := hPR
      have c0 := cell_later HK.out.below (hcl 0 (by omega))
      have c1 := cell_later HK.out.below (hcl 1 (by omega))
      have c2 := cell_later HK.out.below (hcl 2 (by omega))
      simp at c0 c1 c2
      have hcapi : (l.items.length : Int) ≤ cap := by omega
      have hEc := HE.out
      rw [drop_items l j hlt, nestE_cons] at hEc
      have HEC := Lib.hid hEc
      have HY := Lib.hid hy
      have HSb := Lib.hid (nsized_at HS.out _ (List.getElem_mem hlt))
      obtain ⟨ya, yc, hys⟩ := nestD_slice D hy
      subst hys
      clear hcl hcs hrec hEc hy HE
      generalize (l.items[j]).1 = t at *
      generalize (l.items[j]).2.1 = nd at *
      generalize (l.items[j]).2.2 = b at *
      have hbX := below_alloc wr (.cells #[.int .i64 t, .int .i64 nd, .slice ya b.items.length yc] 51)
      have HK2 := Lib.hid (HK.out.of_below 8 hbX)
      have HT2 := Lib.hid (HT.out.trans ((Turn.of_below q 8 hbX).mono (D := fun x => x = 1) (fun _ h => h.elim)) (fun _ h => h))
      have HB2 := Lib.hid (HB.out.turn (Turn.of_below q 8 hbX) (fun h => h))
      clear hbX HK HT HB
      go_wp2_with fail
      refine (none_of HROW.out w0 _ _ K _ t nd b dep m HY.out HSb.out HK2.out HB2.out hm hd).mono ?_
      rintro e w4 ⟨rfl, o4, T4, hB4⟩
      have HK4 := Lib.hid (HK2.out.turn T4 (by decide))
      have HT4 := Lib.hid (HT2.out.trans T4 (fun _ h => h))
      have HB4 := Lib.hid hB4
      have HLE := Lib.hid (oneE_le t nd b dep m hm)
      clear T4 hB4 HK2 HT2 HB2 c0 c1 c2
      obtain ⟨x, hx⟩ : ∃ x, oneE t nd b dep m = x := ⟨_, rfl⟩
      rw [hx] at HEC HB4 HLE ⊢
      obtain ⟨x1, x2⟩ := x
      clear hx
      by_cases h0 : x1 = 0
      · subst h0
        rw [if_neg (by simp)] at HEC
        have hll := HL.out
        go_wp2
        go_roundw
        case rel => exact ⟨j + 1, o4, x2, hlt, by go_num, HK4.out, HT4.out, HB4.out, HLE.out, HEC.out⟩
        case measure => simp [intOf]; omega
      · rw [if_pos (by simpa using h0)] at HEC
        have e := HEC.out
        subst e
        go_wp2
        go_ret
        exact ⟨rfl, _, HT4.out, HB4.out⟩
    · obtain rfl : j = l.items.length := by omega
      have e := HE.out
      rw [drop_end] at e
      subst e
      go_wp2
      go_ret
      exact ⟨rfl, _, HT.out, HB.out⟩

theorem nrow_any : ∀ D, RowOk D
  | 0 => nrow_zero
  | D + 1 => nrow_succ (nrow_any D)
end Go.Proofs.Ytbmbfifempkhgaa

/- nest's total, and Check. -/
namespace Go.Proofs.Ytbmbfifempkhgaa
open Go.RowKit

/-- each loop goes round once at least -/
def TimesOk : Nest → Prop
  | .nil => True
  | .cons t _ b r => 1 ≤ t ∧ TimesOk b ∧ TimesOk r
theorem times_of : ∀ (l : Nest) (d n : Nat), (nestE l d n).1 = 0 → TimesOk l
  | .nil, _, _, _ => trivial
  | .cons t nd b r, d, n, h => by
    rw [nestE_cons] at h
    by_cases h0 : (oneE t nd b d n).1 = 0
    · rw [if_neg (by simpa using h0)] at h
      have ih := times_of r d _ h
      unfold oneE at h0
      split at h0
      · cases h0
      split at h0
      · cases h0
      split at h0
      · cases h0
      split at h0
      · cases h0
      split at h0
      · cases h0
      split at h0
      · rename_i hn
        have hb : TimesOk b := by cases b with | nil => trivial | cons _ _ _ _ => cases hn
        exact ⟨by omega, hb, ih⟩
      · exact ⟨by omega, times_of b (d + 1) n h0, ih⟩
    · rw [if_pos (by simpa using h0)] at h
      exact absurd h h0
theorem times_at : ∀ {l : Nest}, TimesOk l → ∀ x ∈ l.items, 1 ≤ x.1 ∧ TimesOk x.2.2
  | .nil, _, x, hx => by simp [Nest.items] at hx
  | .cons _ _ _ _, h, x, hx => by
    simp only [Nest.items, List.mem_cons] at hx
    rcases hx with rfl | hx
    · exact ⟨h.1, h.2.1⟩
    · exact times_at h.2.2 x hx
theorem prod_b {n t : Int} (h1 : 0 ≤ n) (h2 : n ≤ 2048) (h3 : 1 ≤ t) (h4 : t ≤ 2048) : 0 ≤ n * t ∧ n * t ≤ 4194304 := by
  have := Int.mul_nonneg h1 (show 0 ≤ t by omega)
  have h5 : n * t ≤ 2048 * 2048 := Int.mul_le_mul h2 h4 (by omega) (by omega)
  omega
theorem total_b : ∀ (l : Nest) (s : Int), TimesOk l → 0 ≤ s → s ≤ 2048 → 0 ≤ totalP l s ∧ totalP l s ≤ 2049
  | .nil, s, _, h1, h2 => by simp only [totalP]; omega
  | .cons t _ b r, s, h, h1, h2 => by
    have hn : 0 ≤ (if b.isNil then (1 : Int) else totalP b 0) ∧ (if b.isNil then (1 : Int) else totalP b 0) ≤ 2049 := by
      split
      · omega
      · exact total_b b 0 h.2.1 (by omega) (by omega)
    simp only [totalP]
    generalize (if b.isNil then (1 : Int) else totalP b 0) = n at *
    split
    · omega
    · rename_i h3
      have hp := prod_b hn.1 (by omega) h.1 (by omega : t ≤ 2048)
      split
      · omega
      · exact total_b r _ h.2.2 (by omega) (by omega)
theorem totalP_cons (t nd : Int) (b r : Nest) (s n : Int) (hn : (if b.isNil then (1 : Int) else totalP b 0) = n) : totalP (.cons t nd b r) s = if 2048 < t ∨ 2048 < n then 2049 else if 2048 < s + n * t then 2049 else totalP r (s + n * t) := by
  rw [totalP, hn]

def TotalOk (D : Nat) : Prop := ∀ (w : World) (v : Value) (l : Nest), HasNestD D w v l → NSized l → TimesOk l → Calls Try.prog 70 #[v] w (Tells (.int .i64 (totalP l 0)) w)

set_option maxRecDepth 100000 in
theorem ntotal_zero : TotalOk 0 := by
  intro w v l hv hs ht
  obtain ⟨rfl, ao, cap, rfl⟩ := hv
  clear hs ht
  go_enter Try.func70, Try.ntmps70
  go_wp2_with fail
  go_loopw [3, 9] (fun s i wr => i = .int .i64 0 ∧ s = .int .i64 0 ∧ wr = w) (fun _ _ _ => 0)
  case atStart => exact ⟨rfl, rfl, rfl⟩
  case round =>
    obtain ⟨rfl, rfl, rfl⟩ := hrel
    go_wp2
    go_ret
    exact ⟨rfl, Below.refl _ _⟩


set_option maxRecDepth 100000 in
set_option maxHeartbeats 1000000 in
theorem ntotal_succ {D : Nat} (htot : TotalOk D) : TotalOk (D + 1) := by
  intro w v l hv hs ht
  have hv' : Recs w 3 (fun w x cs => ∃ y, cs = [.int .i64 x.1, .int .i64 x.2.1, y] ∧ HasNestD D w y x.2.2) v l.items := hv
  obtain ⟨ao, cap, rfl⟩ := hv'.slice
  obtain ⟨r, hr⟩ : ∃ r, totalP l 0 = r := ⟨_, rfl⟩
  rw [hr]
  have HE := Lib.hid (show totalP (l.drop 0) 0 = r by rw [drop_zero]; exact hr)
  have HV := Lib.hid hv'
  have HS := Lib.hid hs
  have HTM := Lib.hid ht
  have HL := Lib.hid (nsized_len hs)
  have HTOT := Lib.hid htot
  clear hv hv' hs ht htot hr
  go_enter Try.func70, Try.ntmps70
  go_wp2_with fail
  go_loopw [3, 9] (fun sv i wr => ∃ (j : Nat) (s : Int), j ≤ l.items.length ∧ i = .int .i64 j ∧ sv = .int .i64 s ∧ 0 ≤ s ∧ s ≤ 2048 ∧ Below w.heap.size w wr ∧ totalP (l.drop j) s = r) (fun _ i _ => l.items.length - (intOf i).toNat)
  case atStart => exact ⟨0, 0, Nat.zero_le _, rfl, rfl, by omega, by omega, Below.refl _ _, HE.out⟩
  case round =>
    clear HE
    obtain ⟨j, s, hj, rfl, rfl, hs0, hs1, hb, hE⟩ := hrel
    have HB := Lib.hid hb
    have HE := Lib.hid hE
    clear hb hE
    by_cases hlt : j < l.items.length
    · have hlti : (j : Int) < l.items.length := by omega
      obtain ⟨b0, off, rfl, hcap, hb0, hrec⟩ := HV.out.at (by omega)
      obtain ⟨cs, hcs, hPR, hcl⟩ := hrec j hlt
      obtain ⟨y, rfl, hy⟩ := hPR
      have c0 := cell_later HB.out (hcl 0 (by omega))
      have c1 := cell_later HB.out (hcl 1 (by omega))
      have c2 := cell_later HB.out (hcl 2 (by omega))
      simp at c0 c1 c2
      have hcapi : (l.items.length : Int) ≤ cap := by omega
      have hEc := HE.out
      rw [drop_items l j hlt] at hEc
      have HEC := Lib.hid hEc
      have HY := Lib.hid hy
      have HSb := Lib.hid (nsized_at HS.out _ (List.getElem_mem hlt))
      have hta := times_at HTM.out _ (List.getElem_mem hlt)
      obtain ⟨ya, yc, hys⟩ := nestD_slice D hy
      subst hys
      clear hcl hcs hrec hEc hy HE
      generalize (l.items[j]).1 = t at *
      generalize (l.items[j]).2.1 = nd at *
      generalize (l.items[j]).2.2 = b at *
      obtain ⟨ht1, htb⟩ := hta
      have HTB := Lib.hid htb
      have hbX := below_alloc wr (.cells #[.int .i64 t, .int .i64 nd, .slice ya b.items.length yc] 51)
      have HBX := Lib.hid (HB.out.trans (hbX.mono HB.out.size))
      have hX := heap_alloc_new wr (.cells #[.int .i64 t, .int .i64 nd, .slice ya b.items.length yc] 51)
      have x0 := cells_row _ _ hX 0 _ rfl
      have x2 := cells_row _ _ hX 2 _ rfl
      have hnil := isNil_len b
      generalize hm : b.items.length = m at *
      by_cases hz : m = 0
      · subst hz
        have HN1 := Lib.hid (show (if b.isNil then (1 : Int) else totalP b 0) = 1 by rw [hnil]; rfl)
        clear hbX hX HTB htb
        by_cases h1 : 2048 < t
        · have e : r = 2049 := by rw [← HEC.out, totalP_cons t nd b _ s 1 HN1.out, if_pos (.inl h1)]
          subst e
          go_wp2
          go_ret
          exact ⟨rfl, HBX.out⟩
        have hr2 := HEC.out
        rw [totalP_cons t nd b _ s 1 HN1.out, if_neg (by omega), Int.one_mul] at hr2
        have HR2 := Lib.hid hr2
        clear hr2
        by_cases h3 : 2048 < s + t
        · have e : r = 2049 := by rw [← HR2.out, if_pos h3]
          subst e
          go_wp2
          go_ret
          exact ⟨rfl, HBX.out⟩
        · have HR3 := Lib.hid (show totalP (l.drop (j + 1)) (s + t) = r by rw [← HR2.out, if_neg h3])
          have hll := HL.out
          go_wp2
          go_roundw
          case rel => exact ⟨j + 1, s + t, hlt, by go_num, rfl, by omega, by omega, HBX.out, HR3.out⟩
          case measure => simp [intOf]; omega
      · have hzi : (0 : Int) < m := by omega
        have HN1 := Lib.hid (show (if b.isNil then (1 : Int) else totalP b 0) = totalP b 0 by rw [hnil, decide_eq_false hz]; rfl)
        obtain ⟨tn0, tn1⟩ := total_b b 0 HTB.out (by omega) (by omega)
        go_wp2_with fail
        refine (HTOT.out _ _ b (nestD_below D HY.out HBX.out) HSb.out HTB.out).mono ?_
        rintro e w4 ⟨rfl, hb4⟩
        have HB4 := Lib.hid (HBX.out.trans (hb4.mono HBX.out.size))
        have hX4 := block_mods hX (Mods.of_below hb4 (fun _ => False)) (fun h => h)
        have x0 := cells_row _ _ hX4 0 _ rfl
        clear hbX hX hX4 hb4 HTB htb x2
        obtain ⟨n, hne⟩ : ∃ n, totalP b 0 = n := ⟨_, rfl⟩
        have HN2 := Lib.hid (HN1.out.trans hne)
        rw [hne] at tn0 tn1 ⊢
        clear hne HN1
        by_cases h1 : 2048 < t
        · have e : r = 2049 := by rw [← HEC.out, totalP_cons t nd b _ s n HN2.out, if_pos (.inl h1)]
          subst e
          go_wp2
          go_ret
          exact ⟨rfl, HB4.out⟩
        by_cases h2 : 2048 < n
        · have e : r = 2049 := by rw [← HEC.out, totalP_cons t nd b _ s n HN2.out, if_pos (.inr h2)]
          subst e
          go_wp2
          go_ret
          exact ⟨rfl, HB4.out⟩
        have hp := prod_b (n := n) (t := t) (by omega) (by omega) ht1 (by omega)
        have hr2 := HEC.out
        rw [totalP_cons t nd b _ s n HN2.out, if_neg (by omega)] at hr2
        obtain ⟨p, hpe⟩ : ∃ p, n * t = p := ⟨_, rfl⟩
        rw [hpe] at hp hr2
        have hwm : wrap64 (n * t) = p := by rw [hpe]; exact IntWalk.wrap64_in _ (by omega)
        have HR2 := Lib.hid hr2
        clear hpe hr2
        by_cases h3 : 2048 < s + p
        · have e : r = 2049 := by rw [← HR2.out, if_pos h3]
          subst e
          go_wp2
          go_ret
          exact ⟨rfl, HB4.out⟩
        · have HR3 := Lib.hid (show totalP (l.drop (j + 1)) (s + p) = r by rw [← HR2.out, if_neg h3])
          have hll := HL.out
          go_wp2
          go_roundw
          case rel => exact ⟨j + 1, s + p, hlt, by go_num, rfl, by omega, by omega, HB4.out, HR3.out⟩
          case measure => simp [intOf]; omega
    · obtain rfl : j = l.items.length := by omega
      have e := HE.out
      rw [drop_end, totalP] at e
      subst e
      go_wp2
      go_ret
      exact ⟨rfl, HB.out⟩
theorem ntotal_any : ∀ D, TotalOk D
  | 0 => ntotal_zero
  | D + 1 => ntotal_succ (ntotal_any D)
end Go.Proofs.Ytbmbfifempkhgaa

/- nest.Check. -/
namespace Go.Proofs.Ytbmbfifempkhgaa
open Go.RowKit

set_option maxRecDepth 100000 in
theorem ncheck_any (D : Nat) (w : World) (v : Value) (l : Nest) (hv : HasNestD D w v l) (hs : NSized l) : Calls Try.prog 40 #[v] w (Tells (.int .i64 (nestCheckE l)) w) := by
  obtain ⟨ao, cap, rfl⟩ := nestD_slice D hv
  have hbK := below_alloc w (.cells #[.int .i64 0] 145)
  have hK : Blk (w.alloc (.cells #[.int .i64 0] 145)) (ext (fun _ => 0) w.heap.size 1) 1 w.heap.size 145 #[.int .i64 ((0 : Nat) : Int)] := ⟨heap_alloc_new w _, ext_new (Nat.le_refl _)⟩
  have HK := Lib.hid hK
  have HKe := Lib.hid ((Kept.start w).of_below 1 hbK)
  have HV := Lib.hid hv
  have HS := Lib.hid hs
  obtain ⟨E, hE⟩ : ∃ E, nestCheckE l = E := ⟨_, rfl⟩
  rw [hE]
  have HE := Lib.hid hE
  have hrow := Lib.hid (nrow_any D w _ (ext (fun _ => 0) w.heap.size 1) w.heap.size _ l 0 0 hv hs HKe.out hK (by omega) (by omega))
  clear hbK hK hv hs hE HK
  go_enter Try.func40, Try.ntmps40
  go_wp2_with fail
  refine (hrow.out).mono ?_
  rintro e w2 ⟨rfl, o2, T, hK2⟩
  have HK2 := Lib.hid (HKe.out.turn T (by decide))
  clear T hK2 hrow HKe
  obtain ⟨r, hr⟩ : ∃ r, nestE l 0 0 = r := ⟨_, rfl⟩
  obtain ⟨r1, r2⟩ := r
  rw [hr]
  have HR := Lib.hid hr
  clear hr
  by_cases h0 : r1 = 0
  · subst h0
    have HTM := Lib.hid (times_of l 0 0 (by rw [HR.out]))
    go_wp2_with fail
    refine (ntotal_any D _ _ l (nestD_below D HV.out HK2.out.below) HS.out HTM.out).mono ?_
    rintro e w3 ⟨rfl, hb3⟩
    have HB3 := Lib.hid (HK2.out.below.trans (hb3.mono HK2.out.size))
    clear hb3
    obtain ⟨tt, ht⟩ : ∃ x, totalP l 0 = x := ⟨_, rfl⟩
    rw [ht]
    have HT := Lib.hid ht
    clear ht
    by_cases h1 : 2048 < tt
    · have e : E = 5 := by rw [← HE.out, nestCheckE, HR.out, if_neg (by simp), HT.out, if_pos h1]
      subst e
      go_wp2
      go_ret
      exact ⟨rfl, HB3.out⟩
    · have e : E = 0 := by rw [← HE.out, nestCheckE, HR.out, if_neg (by simp), HT.out, if_neg h1]
      subst e
      go_wp2
      go_ret
      exact ⟨rfl, HB3.out⟩
  · have e : E = r1 := by rw [← HE.out, nestCheckE, HR.out, if_pos (by simpa using h0)]
    subst e
    go_wp2
    go_ret
    exact ⟨rfl, HK2.out.below⟩
end Go.Proofs.Ytbmbfifempkhgaa
