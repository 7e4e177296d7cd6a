/- nest's checker: row. -/
import Derived.Test.YtbmbfifempkhgaaNOne
namespace Go.Proofs.Ytbmbfifempkhgaa
open Go.RowKit

set_option maxRecDepth 100000 in
theorem nrow_zero : RowOk 0 := by
  intro w0 w o K v l dep n hv hs hk hb hn hd
  obtain ⟨rfl, ao, cap, rfl⟩ := hv
  have HT := Lib.hid (Turn.refl o (fun x => x = 1) w)
  have HB := Lib.hid hb
  clear hk hb hs
  go_enter Try.func77, Try.ntmps77
  go_wp2_with fail
  go_loopw [12] (fun i wr => i = .int .i64 0 ∧ wr = w) (fun _ _ => 0)
  case atStart => exact ⟨rfl, rfl⟩
  case round =>
    obtain ⟨rfl, rfl⟩ := hrel
    go_wp2
    go_ret
    exact ⟨rfl, _, HT.out, HB.out⟩

set_option maxRecDepth 100000 in
set_option maxHeartbeats 1000000 in
theorem nrow_succ {D : Nat} (hrow : RowOk D) : RowOk (D + 1) := by
  intro w0 w o K v l dep n hv hs hk hb hn hd
  have hv' : Recs w0 3 (fun w x cs => ∃ y, cs = [.int .i64 x.1, .int .i64 x.2.1, y] ∧ HasNestD D w y x.2.2) v l.items := hv
  obtain ⟨ao, cap, rfl⟩ := hv'.slice
  obtain ⟨r, hr⟩ : ∃ r, nestE l dep n = r := ⟨_, rfl⟩
  rw [hr]
  have HE := Lib.hid (show nestE (l.drop 0) dep n = r by rw [drop_zero]; exact hr)
  have HV := Lib.hid hv'
  have HS := Lib.hid hs
  have HL := Lib.hid (nsized_len hs)
  have HROW := Lib.hid hrow
  have HT0 := Lib.hid (Turn.refl o (fun x => x = 1) w)
  have HK0 := Lib.hid hk
  have HB0 := Lib.hid hb
  have hdi : (dep : Int) ≤ 16 := by omega
  clear hv hv' hs hk hb hrow hr
  go_enter Try.func77, Try.ntmps77
  go_wp2_with fail
  go_loopw [12] (fun i wr => ∃ (j : Nat) (q : Col) (m : Nat), j ≤ l.items.length ∧ i = .int .i64 j ∧ Kept w0.heap.size q w0 wr ∧ Turn o q (fun x => x = 1) w wr ∧ Blk wr q 1 K 145 #[.int .i64 m] ∧ m ≤ 2048 ∧ nestE (l.drop j) dep m = r) (fun i _ => l.items.length - (intOf i).toNat)
  case atStart => exact ⟨0, o, n, Nat.zero_le _, rfl, HK0.out, HT0.out, HB0.out, hn, HE.out⟩
  case round =>
    clear HK0 HT0 HB0 HE
    obtain ⟨j, q, m, hj, rfl, hK, hT, hB, hm, hE⟩ := hrel
    have HK := Lib.hid hK
    have HT := Lib.hid hT
    have HB := Lib.hid hB
    have HE := Lib.hid hE
    clear hK hT hB hE
    by_cases hlt : j < l.items.length
    · have hlti : (j : Int) < l.items.length := by omega
      obtain ⟨b0, off, rfl, hcap, hb0, hrec⟩ := HV.out.at (by omega)
      obtain ⟨cs, hcs, hPR, hcl⟩ := hrec j hlt
      obtain ⟨y, rfl, hy⟩ := hPR
      have c0 := cell_later HK.out.below (hcl 0 (by omega))
      have c1 := cell_later HK.out.below (hcl 1 (by omega))
      have c2 := cell_later HK.out.below (hcl 2 (by omega))
      simp at c0 c1 c2
      have hcapi : (l.items.length : Int) ≤ cap := by omega
      have hEc := HE.out
      rw [drop_items l j hlt, nestE_cons] at hEc
      have HEC := Lib.hid hEc
      have HY := Lib.hid hy
      have HSb := Lib.hid (nsized_at HS.out _ (List.getElem_mem hlt))
      obtain ⟨ya, yc, hys⟩ := nestD_slice D hy
      subst hys
      clear hcl hcs hrec hEc hy HE
      generalize (l.items[j]).1 = t at *
      generalize (l.items[j]).2.1 = nd at *
      generalize (l.items[j]).2.2 = b at *
      have hbX := below_alloc wr (.cells #[.int .i64 t, .int .i64 nd, .slice ya b.items.length yc] 51)
      have HK2 := Lib.hid (HK.out.of_below 8 hbX)
      have HT2 := Lib.hid (HT.out.trans ((Turn.of_below q 8 hbX).mono (D := fun x => x = 1) (fun _ h => h.elim)) (fun _ h => h))
      have HB2 := Lib.hid (HB.out.turn (Turn.of_below q 8 hbX) (fun h => h))
      clear hbX HK HT HB
      go_wp2_with fail
      refine (none_of HROW.out w0 _ _ K _ t nd b dep m HY.out HSb.out HK2.out HB2.out hm hd).mono ?_
      rintro e w4 ⟨rfl, o4, T4, hB4⟩
      have HK4 := Lib.hid (HK2.out.turn T4 (by decide))
      have HT4 := Lib.hid (HT2.out.trans T4 (fun _ h => h))
      have HB4 := Lib.hid hB4
      have HLE := Lib.hid (oneE_le t nd b dep m hm)
      clear T4 hB4 HK2 HT2 HB2 c0 c1 c2
      obtain ⟨x, hx⟩ : ∃ x, oneE t nd b dep m = x := ⟨_, rfl⟩
      rw [hx] at HEC HB4 HLE ⊢
      obtain ⟨x1, x2⟩ := x
      clear hx
      by_cases h0 : x1 = 0
      · subst h0
        rw [if_neg (by simp)] at HEC
        have hll := HL.out
        go_wp2
        go_roundw
        case rel => exact ⟨j + 1, o4, x2, hlt, by go_num, HK4.out, HT4.out, HB4.out, HLE.out, HEC.out⟩
        case measure => simp [intOf]; omega
      · rw [if_pos (by simpa using h0)] at HEC
        have e := HEC.out
        subst e
        go_wp2
        go_ret
        exact ⟨rfl, _, HT4.out, HB4.out⟩
    · obtain rfl : j = l.items.length := by omega
      have e := HE.out
      rw [drop_end] at e
      subst e
      go_wp2
      go_ret
      exact ⟨rfl, _, HT.out, HB.out⟩

theorem nrow_any : ∀ D, RowOk D
  | 0 => nrow_zero
  | D + 1 => nrow_succ (nrow_any D)
end Go.Proofs.Ytbmbfifempkhgaa
