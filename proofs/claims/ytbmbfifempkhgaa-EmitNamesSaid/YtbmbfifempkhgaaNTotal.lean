/- nest's total, and Check. -/
import Derived.Test.YtbmbfifempkhgaaNRow
namespace Go.Proofs.Ytbmbfifempkhgaa
open Go.RowKit

/-- each loop goes round once at least -/
def TimesOk : Nest → Prop
  | .nil => True
  | .cons t _ b r => 1 ≤ t ∧ TimesOk b ∧ TimesOk r
theorem times_of : ∀ (l : Nest) (d n : Nat), (nestE l d n).1 = 0 → TimesOk l
  | .nil, _, _, _ => trivial
  | .cons t nd b r, d, n, h => by
    rw [nestE_cons] at h
    by_cases h0 : (oneE t nd b d n).1 = 0
    · rw [if_neg (by simpa using h0)] at h
      have ih := times_of r d _ h
      unfold oneE at h0
      split at h0
      · cases h0
      split at h0
      · cases h0
      split at h0
      · cases h0
      split at h0
      · cases h0
      split at h0
      · cases h0
      split at h0
      · rename_i hn
        have hb : TimesOk b := by cases b with | nil => trivial | cons _ _ _ _ => cases hn
        exact ⟨by omega, hb, ih⟩
      · exact ⟨by omega, times_of b (d + 1) n h0, ih⟩
    · rw [if_pos (by simpa using h0)] at h
      exact absurd h h0
theorem times_at : ∀ {l : Nest}, TimesOk l → ∀ x ∈ l.items, 1 ≤ x.1 ∧ TimesOk x.2.2
  | .nil, _, x, hx => by simp [Nest.items] at hx
  | .cons _ _ _ _, h, x, hx => by
    simp only [Nest.items, List.mem_cons] at hx
    rcases hx with rfl | hx
    · exact ⟨h.1, h.2.1⟩
    · exact times_at h.2.2 x hx
theorem prod_b {n t : Int} (h1 : 0 ≤ n) (h2 : n ≤ 2048) (h3 : 1 ≤ t) (h4 : t ≤ 2048) : 0 ≤ n * t ∧ n * t ≤ 4194304 := by
  have := Int.mul_nonneg h1 (show 0 ≤ t by omega)
  have h5 : n * t ≤ 2048 * 2048 := Int.mul_le_mul h2 h4 (by omega) (by omega)
  omega
theorem total_b : ∀ (l : Nest) (s : Int), TimesOk l → 0 ≤ s → s ≤ 2048 → 0 ≤ totalP l s ∧ totalP l s ≤ 2049
  | .nil, s, _, h1, h2 => by simp only [totalP]; omega
  | .cons t _ b r, s, h, h1, h2 => by
    have hn : 0 ≤ (if b.isNil then (1 : Int) else totalP b 0) ∧ (if b.isNil then (1 : Int) else totalP b 0) ≤ 2049 := by
      split
      · omega
      · exact total_b b 0 h.2.1 (by omega) (by omega)
    simp only [totalP]
    generalize (if b.isNil then (1 : Int) else totalP b 0) = n at *
    split
    · omega
    · rename_i h3
      have hp := prod_b hn.1 (by omega) h.1 (by omega : t ≤ 2048)
      split
      · omega
      · exact total_b r _ h.2.2 (by omega) (by omega)
theorem totalP_cons (t nd : Int) (b r : Nest) (s n : Int) (hn : (if b.isNil then (1 : Int) else totalP b 0) = n) : totalP (.cons t nd b r) s = if 2048 < t ∨ 2048 < n then 2049 else if 2048 < s + n * t then 2049 else totalP r (s + n * t) := by
  rw [totalP, hn]

def TotalOk (D : Nat) : Prop := ∀ (w : World) (v : Value) (l : Nest), HasNestD D w v l → NSized l → TimesOk l → Calls Try.prog 70 #[v] w (Tells (.int .i64 (totalP l 0)) w)

set_option maxRecDepth 100000 in
theorem ntotal_zero : TotalOk 0 := by
  intro w v l hv hs ht
  obtain ⟨rfl, ao, cap, rfl⟩ := hv
  clear hs ht
  go_enter Try.func70, Try.ntmps70
  go_wp2_with fail
  go_loopw [3, 9] (fun s i wr => i = .int .i64 0 ∧ s = .int .i64 0 ∧ wr = w) (fun _ _ _ => 0)
  case atStart => exact ⟨rfl, rfl, rfl⟩
  case round =>
    obtain ⟨rfl, rfl, rfl⟩ := hrel
    go_wp2
    go_ret
    exact ⟨rfl, Below.refl _ _⟩


set_option maxRecDepth 100000 in
set_option maxHeartbeats 1000000 in
theorem ntotal_succ {D : Nat} (htot : TotalOk D) : TotalOk (D + 1) := by
  intro w v l hv hs ht
  have hv' : Recs w 3 (fun w x cs => ∃ y, cs = [.int .i64 x.1, .int .i64 x.2.1, y] ∧ HasNestD D w y x.2.2) v l.items := hv
  obtain ⟨ao, cap, rfl⟩ := hv'.slice
  obtain ⟨r, hr⟩ : ∃ r, totalP l 0 = r := ⟨_, rfl⟩
  rw [hr]
  have HE := Lib.hid (show totalP (l.drop 0) 0 = r by rw [drop_zero]; exact hr)
  have HV := Lib.hid hv'
  have HS := Lib.hid hs
  have HTM := Lib.hid ht
  have HL := Lib.hid (nsized_len hs)
  have HTOT := Lib.hid htot
  clear hv hv' hs ht htot hr
  go_enter Try.func70, Try.ntmps70
  go_wp2_with fail
  go_loopw [3, 9] (fun sv i wr => ∃ (j : Nat) (s : Int), j ≤ l.items.length ∧ i = .int .i64 j ∧ sv = .int .i64 s ∧ 0 ≤ s ∧ s ≤ 2048 ∧ Below w.heap.size w wr ∧ totalP (l.drop j) s = r) (fun _ i _ => l.items.length - (intOf i).toNat)
  case atStart => exact ⟨0, 0, Nat.zero_le _, rfl, rfl, by omega, by omega, Below.refl _ _, HE.out⟩
  case round =>
    clear HE
    obtain ⟨j, s, hj, rfl, rfl, hs0, hs1, hb, hE⟩ := hrel
    have HB := Lib.hid hb
    have HE := Lib.hid hE
    clear hb hE
    by_cases hlt : j < l.items.length
    · have hlti : (j : Int) < l.items.length := by omega
      obtain ⟨b0, off, rfl, hcap, hb0, hrec⟩ := HV.out.at (by omega)
      obtain ⟨cs, hcs, hPR, hcl⟩ := hrec j hlt
      obtain ⟨y, rfl, hy⟩ := hPR
      have c0 := cell_later HB.out (hcl 0 (by omega))
      have c1 := cell_later HB.out (hcl 1 (by omega))
      have c2 := cell_later HB.out (hcl 2 (by omega))
      simp at c0 c1 c2
      have hcapi : (l.items.length : Int) ≤ cap := by omega
      have hEc := HE.out
      rw [drop_items l j hlt] at hEc
      have HEC := Lib.hid hEc
      have HY := Lib.hid hy
      have HSb := Lib.hid (nsized_at HS.out _ (List.getElem_mem hlt))
      have hta := times_at HTM.out _ (List.getElem_mem hlt)
      obtain ⟨ya, yc, hys⟩ := nestD_slice D hy
      subst hys
      clear hcl hcs hrec hEc hy HE
      generalize (l.items[j]).1 = t at *
      generalize (l.items[j]).2.1 = nd at *
      generalize (l.items[j]).2.2 = b at *
      obtain ⟨ht1, htb⟩ := hta
      have HTB := Lib.hid htb
      have hbX := below_alloc wr (.cells #[.int .i64 t, .int .i64 nd, .slice ya b.items.length yc] 51)
      have HBX := Lib.hid (HB.out.trans (hbX.mono HB.out.size))
      have hX := heap_alloc_new wr (.cells #[.int .i64 t, .int .i64 nd, .slice ya b.items.length yc] 51)
      have x0 := cells_row _ _ hX 0 _ rfl
      have x2 := cells_row _ _ hX 2 _ rfl
      have hnil := isNil_len b
      generalize hm : b.items.length = m at *
      by_cases hz : m = 0
      · subst hz
        have HN1 := Lib.hid (show (if b.isNil then (1 : Int) else totalP b 0) = 1 by rw [hnil]; rfl)
        clear hbX hX HTB htb
        by_cases h1 : 2048 < t
        · have e : r = 2049 := by rw [← HEC.out, totalP_cons t nd b _ s 1 HN1.out, if_pos (.inl h1)]
          subst e
          go_wp2
          go_ret
          exact ⟨rfl, HBX.out⟩
        have hr2 := HEC.out
        rw [totalP_cons t nd b _ s 1 HN1.out, if_neg (by omega), Int.one_mul] at hr2
        have HR2 := Lib.hid hr2
        clear hr2
        by_cases h3 : 2048 < s + t
        · have e : r = 2049 := by rw [← HR2.out, if_pos h3]
          subst e
          go_wp2
          go_ret
          exact ⟨rfl, HBX.out⟩
        · have HR3 := Lib.hid (show totalP (l.drop (j + 1)) (s + t) = r by rw [← HR2.out, if_neg h3])
          have hll := HL.out
          go_wp2
          go_roundw
          case rel => exact ⟨j + 1, s + t, hlt, by go_num, rfl, by omega, by omega, HBX.out, HR3.out⟩
          case measure => simp [intOf]; omega
      · have hzi : (0 : Int) < m := by omega
        have HN1 := Lib.hid (show (if b.isNil then (1 : Int) else totalP b 0) = totalP b 0 by rw [hnil, decide_eq_false hz]; rfl)
        obtain ⟨tn0, tn1⟩ := total_b b 0 HTB.out (by omega) (by omega)
        go_wp2_with fail
        refine (HTOT.out _ _ b (nestD_below D HY.out HBX.out) HSb.out HTB.out).mono ?_
        rintro e w4 ⟨rfl, hb4⟩
        have HB4 := Lib.hid (HBX.out.trans (hb4.mono HBX.out.size))
        have hX4 := block_mods hX (Mods.of_below hb4 (fun _ => False)) (fun h => h)
        have x0 := cells_row _ _ hX4 0 _ rfl
        clear hbX hX hX4 hb4 HTB htb x2
        obtain ⟨n, hne⟩ : ∃ n, totalP b 0 = n := ⟨_, rfl⟩
        have HN2 := Lib.hid (HN1.out.trans hne)
        rw [hne] at tn0 tn1 ⊢
        clear hne HN1
        by_cases h1 : 2048 < t
        · have e : r = 2049 := by rw [← HEC.out, totalP_cons t nd b _ s n HN2.out, if_pos (.inl h1)]
          subst e
          go_wp2
          go_ret
          exact ⟨rfl, HB4.out⟩
        by_cases h2 : 2048 < n
        · have e : r = 2049 := by rw [← HEC.out, totalP_cons t nd b _ s n HN2.out, if_pos (.inr h2)]
          subst e
          go_wp2
          go_ret
          exact ⟨rfl, HB4.out⟩
        have hp := prod_b (n := n) (t := t) (by omega) (by omega) ht1 (by omega)
        have hr2 := HEC.out
        rw [totalP_cons t nd b _ s n HN2.out, if_neg (by omega)] at hr2
        obtain ⟨p, hpe⟩ : ∃ p, n * t = p := ⟨_, rfl⟩
        rw [hpe] at hp hr2
        have hwm : wrap64 (n * t) = p := by rw [hpe]; exact IntWalk.wrap64_in _ (by omega)
        have HR2 := Lib.hid hr2
        clear hpe hr2
        by_cases h3 : 2048 < s + p
        · have e : r = 2049 := by rw [← HR2.out, if_pos h3]
          subst e
          go_wp2
          go_ret
          exact ⟨rfl, HB4.out⟩
        · have HR3 := Lib.hid (show totalP (l.drop (j + 1)) (s + p) = r by rw [← HR2.out, if_neg h3])
          have hll := HL.out
          go_wp2
          go_roundw
          case rel => exact ⟨j + 1, s + p, hlt, by go_num, rfl, by omega, by omega, HB4.out, HR3.out⟩
          case measure => simp [intOf]; omega
    · obtain rfl : j = l.items.length := by omega
      have e := HE.out
      rw [drop_end, totalP] at e
      subst e
      go_wp2
      go_ret
      exact ⟨rfl, HB.out⟩
theorem ntotal_any : ∀ D, TotalOk D
  | 0 => ntotal_zero
  | D + 1 => ntotal_succ (ntotal_any D)
end Go.Proofs.Ytbmbfifempkhgaa
