/- emit's strange. -/
import Derived.Test.YtbmbfifempkhgaaNTotal
namespace Go.Proofs.Ytbmbfifempkhgaa
open Go.RowKit

def strangeP : Nest → Int → Bool
  | .nil, _ => false
  | .cons _ nd b r, a => (b.isNil && decide (a ≤ nd)) || strangeP b a || strangeP r a

def StrangeOk (D : Nat) : Prop := ∀ (w : World) (v : Value) (l : Nest) (a : Int), HasNestD D w v l → NSized l → Calls Try.prog 41 #[v, .int .i64 a] w (Tells (.bool (strangeP l a)) w)

set_option maxRecDepth 100000 in
theorem strange_zero : StrangeOk 0 := by
  intro w v l a hv hs
  obtain ⟨rfl, ao, cap, rfl⟩ := hv
  clear hs
  go_enter Try.func41, Try.ntmps41
  go_wp2_with fail
  go_loopw [9] (fun i wr => i = .int .i64 0 ∧ wr = w) (fun _ _ => 0)
  case atStart => exact ⟨rfl, rfl⟩
  case round =>
    obtain ⟨rfl, rfl⟩ := hrel
    go_wp2
    go_ret
    exact ⟨rfl, Below.refl _ _⟩


set_option maxRecDepth 100000 in
set_option maxHeartbeats 1000000 in
theorem strange_succ {D : Nat} (hstr : StrangeOk D) : StrangeOk (D + 1) := by
  intro w v l a hv hs
  have hv' : Recs w 3 (fun w x cs => ∃ y, cs = [.int .i64 x.1, .int .i64 x.2.1, y] ∧ HasNestD D w y x.2.2) v l.items := hv
  obtain ⟨ao, cap, rfl⟩ := hv'.slice
  obtain ⟨r, hr⟩ : ∃ r, strangeP l a = r := ⟨_, rfl⟩
  rw [hr]
  have HE := Lib.hid (show strangeP (l.drop 0) a = r by rw [drop_zero]; exact hr)
  have HV := Lib.hid hv'
  have HS := Lib.hid hs
  have HL := Lib.hid (nsized_len hs)
  have HSTR := Lib.hid hstr
  clear hv hv' hs hstr hr
  go_enter Try.func41, Try.ntmps41
  go_wp2_with fail
  go_loopw [9] (fun i wr => ∃ (j : Nat), j ≤ l.items.length ∧ i = .int .i64 j ∧ Below w.heap.size w wr ∧ strangeP (l.drop j) a = r) (fun i _ => l.items.length - (intOf i).toNat)
  case atStart => exact ⟨0, Nat.zero_le _, rfl, Below.refl _ _, HE.out⟩
  case round =>
    clear HE
    obtain ⟨j, hj, rfl, hb, hE⟩ := hrel
    have HB := Lib.hid hb
    have HE := Lib.hid hE
    clear hb hE
    by_cases hlt : j < l.items.length
    · have hlti : (j : Int) < l.items.length := by omega
      obtain ⟨b0, off, rfl, hcap, hb0, hrec⟩ := HV.out.at (by omega)
      obtain ⟨cs, hcs, hPR, hcl⟩ := hrec j hlt
      obtain ⟨y, rfl, hy⟩ := hPR
      have c0 := cell_later HB.out (hcl 0 (by omega))
      have c1 := cell_later HB.out (hcl 1 (by omega))
      have c2 := cell_later HB.out (hcl 2 (by omega))
      simp at c0 c1 c2
      have hcapi : (l.items.length : Int) ≤ cap := by omega
      have hEc := HE.out
      rw [drop_items l j hlt] at hEc
      have HEC := Lib.hid hEc
      have HY := Lib.hid hy
      have HSb := Lib.hid (nsized_at HS.out _ (List.getElem_mem hlt))
      obtain ⟨ya, yc, hys⟩ := nestD_slice D hy
      subst hys
      clear hcl hcs hrec hEc hy HE
      generalize (l.items[j]).1 = t at *
      generalize (l.items[j]).2.1 = nd at *
      generalize (l.items[j]).2.2 = b at *
      have hbX := below_alloc wr (.cells #[.int .i64 t, .int .i64 nd, .slice ya b.items.length yc] 51)
      have HBX := Lib.hid (HB.out.trans (hbX.mono HB.out.size))
      have hX := heap_alloc_new wr (.cells #[.int .i64 t, .int .i64 nd, .slice ya b.items.length yc] 51)
      have x1 := cells_row _ _ hX 1 _ rfl
      have x2 := cells_row _ _ hX 2 _ rfl
      have hnil := isNil_len b
      generalize hm : b.items.length = m at *
      clear hbX hX
      by_cases hz : m = 0
      · subst hz
        have HNL := Lib.hid (show b.isNil = true by rw [hnil]; rfl)
        clear hnil
        by_cases h1 : a ≤ nd
        · have e : r = true := by rw [← HEC.out, strangeP]; simp [HNL.out, h1]
          subst e
          go_wp2
          go_ret
          exact ⟨rfl, HBX.out⟩
        · have HN1 := Lib.hid (decide_eq_false h1)
          go_wp2_with fail
          refine (HSTR.out _ _ b a (nestD_below D HY.out HBX.out) HSb.out).mono ?_
          rintro e w4 ⟨rfl, hb4⟩
          have HB4 := Lib.hid (HBX.out.trans (hb4.mono HBX.out.size))
          clear hb4
          obtain ⟨sb, hsb⟩ : ∃ x, strangeP b a = x := ⟨_, rfl⟩
          rw [hsb]
          have HSB := Lib.hid hsb
          clear hsb
          cases sb with
          | true =>
            have e : r = true := by rw [← HEC.out, strangeP]; simp [HSB.out]
            subst e
            go_wp2
            go_ret
            exact ⟨rfl, HB4.out⟩
          | false =>
            have HR3 := Lib.hid (show strangeP (l.drop (j + 1)) a = r by rw [← HEC.out, strangeP, HSB.out]; simp only [HNL.out, HN1.out, Bool.and_false, Bool.false_or, Bool.or_false])
            have hll := HL.out
            go_wp2
            go_roundw
            case rel => exact ⟨j + 1, hlt, by go_num, HB4.out, HR3.out⟩
            case measure => simp [intOf]; omega
      · have hzi : ((m : Int) == 0) = false := by rw [beq_eq_false_iff_ne]; omega
        have HNL := Lib.hid (show b.isNil = false by rw [hnil, decide_eq_false hz])
        clear hnil
        go_wp2_with fail
        refine (HSTR.out _ _ b a (nestD_below D HY.out HBX.out) HSb.out).mono ?_
        rintro e w4 ⟨rfl, hb4⟩
        have HB4 := Lib.hid (HBX.out.trans (hb4.mono HBX.out.size))
        clear hb4
        obtain ⟨sb, hsb⟩ : ∃ x, strangeP b a = x := ⟨_, rfl⟩
        rw [hsb]
        have HSB := Lib.hid hsb
        clear hsb
        cases sb with
        | true =>
          have e : r = true := by rw [← HEC.out, strangeP]; simp [HSB.out]
          subst e
          go_wp2
          go_ret
          exact ⟨rfl, HB4.out⟩
        | false =>
          have HR3 := Lib.hid (show strangeP (l.drop (j + 1)) a = r by rw [← HEC.out, strangeP, HSB.out]; simp only [HNL.out, Bool.false_and, Bool.false_or, Bool.or_false])
          have hll := HL.out
          go_wp2
          go_roundw
          case rel => exact ⟨j + 1, hlt, by go_num, HB4.out, HR3.out⟩
          case measure => simp [intOf]; omega
    · obtain rfl : j = l.items.length := by omega
      have e := HE.out
      rw [drop_end, strangeP] at e
      subst e
      go_wp2
      go_ret
      exact ⟨rfl, HB.out⟩
theorem strange_any : ∀ D, StrangeOk D
  | 0 => strange_zero
  | D + 1 => strange_succ (strange_any D)
end Go.Proofs.Ytbmbfifempkhgaa
