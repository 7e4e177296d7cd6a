/- nest's checker: one. -/
import Derived.Test.YtbmbfifempkhgaaProg
import Derived.Test.YtbmbfifempkhgaaSmall
import Derived.Test.YtbmbfifempkhgaaNLaw
import Derived.Deep.QuietTactic
import Derived.BigQuiet
namespace Go.Proofs.Ytbmbfifempkhgaa
open Go.RowKit

/-- what the checker's methods answer -/
def NRet (w : World) (o : Col) (K : Nat) (r : Int × Nat) (e : Ending) (w' : World) : Prop := e = .returned (.int .i64 r.1) ∧ ∃ o', Turn o o' (fun x => x = 1) w w' ∧ Blk w' o' 1 K 145 #[.int .i64 r.2]

/-- the contract of 'row', for nests no deeper than D -/
def RowOk (D : Nat) : Prop := ∀ (w0 w : World) (o : Col) (K : Nat) (v : Value) (l : Nest) (dep n : Nat), HasNestD D w0 v l → NSized l → Kept w0.heap.size o w0 w → Blk w o 1 K 145 #[.int .i64 n] → n ≤ 2048 → dep ≤ 16 →
  Calls Try.prog 77 #[.pointer (some ⟨K, 0, none⟩), v, .int .i64 dep] w (NRet w o K (nestE l dep n))

theorem oneE_leaves (t nd : Int) (b : Nest) (d n : Nat) (h : (oneE t nd b d n).1 = 0) : n < 2048 := by
  refine Nat.lt_of_not_le fun hn => ?_
  unfold oneE at h
  rw [if_pos hn] at h
  cases h


set_option maxRecDepth 100000 in
set_option maxHeartbeats 1000000 in
theorem none_of {D : Nat} (hrow : RowOk D) (w0 w : World) (o : Col) (K : Nat) (v : Value) (t nd : Int) (b : Nest) (dep n : Nat) (hv : HasNestD D w0 v b) (hl : NSized b) (hk : Kept w0.heap.size o w0 w) (hb : Blk w o 1 K 145 #[.int .i64 n]) (hn : n ≤ 2048) (hd : dep ≤ 16) :
    Calls Try.prog 101 #[.pointer (some ⟨K, 0, none⟩), .agg #[.int .i64 t, .int .i64 nd, v], .int .i64 dep] w (NRet w o K (oneE t nd b dep n)) := by
  obtain ⟨ao, cap, rfl⟩ := nestD_slice D hv
  have hbX := below_alloc w (.cells #[.int .i64 t, .int .i64 nd, .slice ao b.items.length cap] 51)
  have hX := heap_alloc_new w (.cells #[.int .i64 t, .int .i64 nd, .slice ao b.items.length cap] 51)
  have hK1 := hb.turn (Turn.of_below o 7 hbX) (fun h => h)
  have hnil := isNil_len b
  have HT := Lib.hid ((Turn.of_below o 7 hbX).mono (D := fun x => x = 1) (fun _ h => h.elim))
  have HKe := Lib.hid (hk.of_below 7 hbX)
  have HK1 := Lib.hid hK1
  have HV := Lib.hid hv
  have HROW := Lib.hid hrow
  have HL := Lib.hid hl
  have x0 := cells_row _ _ hX 0 _ rfl
  have x1 := cells_row _ _ hX 1 _ rfl
  have x2 := cells_row _ _ hX 2 _ rfl
  have k0 := hK1.cell 0 _ rfl
  have kf := hK1.frozen 0
  obtain ⟨r, hr⟩ : ∃ r, oneE t nd b dep n = r := ⟨_, rfl⟩
  rw [hr]
  unfold oneE at hr
  have hrow1 := Lib.hid (fun o' (h1 : Kept w0.heap.size o' w0 (w.alloc (.cells #[.int .i64 t, .int .i64 nd, .slice ao b.items.length cap] 51))) h2 h3 => HROW.out w0 _ o' K (.slice ao b.items.length cap) b (dep + 1) n hv hl h1 h2 hn h3)
  clear hbX hX hb hK1 hk hv hrow hl HV HL
  generalize hm : b.items.length = m at *
  have hni : (n : Int) ≤ 2048 := by omega
  by_cases h1 : 2048 ≤ n
  · have h1i : (2048 : Int) ≤ n := by omega
    rw [if_pos h1] at hr
    subst hr
    go_enter Try.func101, Try.ntmps101
    go_wp2
    go_ret
    exact ⟨rfl, _, HT.out, HK1.out⟩
  have h1i : ¬ (2048 : Int) ≤ n := by omega
  rw [if_neg h1] at hr
  by_cases hz : m = 0
  · -- a leaf
    subst hz
    rw [hnil] at hr
    simp only [decide_true, Bool.not_true, Bool.false_and, Bool.true_and] at hr
    rw [if_neg (by simp)] at hr
    by_cases h3 : t < 1
    · rw [if_pos h3] at hr
      subst hr
      go_enter Try.func101, Try.ntmps101
      go_wp2
      go_ret
      exact ⟨rfl, _, HT.out, HK1.out⟩
    rw [if_neg h3, if_neg (by simp)] at hr
    by_cases h5 : nd < 0
    · have : (decide (nd < 0) || decide (32 ≤ nd)) = true := by simp [h5]
      rw [if_pos this] at hr
      subst hr
      go_enter Try.func101, Try.ntmps101
      go_wp2
      go_ret
      exact ⟨rfl, _, HT.out, HK1.out⟩
    by_cases h6 : 32 ≤ nd
    · have : (decide (nd < 0) || decide (32 ≤ nd)) = true := by simp [h6]
      rw [if_pos this] at hr
      subst hr
      go_enter Try.func101, Try.ntmps101
      go_wp2
      go_ret
      exact ⟨rfl, _, HT.out, HK1.out⟩
    have : (decide (nd < 0) || decide (32 ≤ nd)) = false := by simp; omega
    rw [this, if_neg (by simp), if_pos (by simp)] at hr
    subst hr
    have HSET := Lib.hid (HK1.out.set 0 (.int .i64 ((n : Int) + 1)))
    go_enter Try.func101, Try.ntmps101
    go_wp2
    go_ret
    exact ⟨rfl, _, HT.out.trans HSET.out.2 (fun x e => e), HSET.out.1⟩
  · -- a body
    have hzi : ((m : Int) == 0) = false := by rw [beq_eq_false_iff_ne]; omega
    rw [hnil, decide_eq_false hz] at hr
    simp only [Bool.not_false, Bool.true_and, Bool.false_and] at hr
    by_cases h2 : 16 ≤ dep
    · have h2i : (16 : Int) ≤ dep := by omega
      rw [if_pos (by simpa using h2)] at hr
      subst hr
      go_enter Try.func101, Try.ntmps101
      go_wp2
      go_ret
      exact ⟨rfl, _, HT.out, HK1.out⟩
    have h2i : ¬ (16 : Int) ≤ dep := by omega
    rw [if_neg (by simpa using h2)] at hr
    by_cases h3 : t < 1
    · rw [if_pos h3] at hr
      subst hr
      go_enter Try.func101, Try.ntmps101
      go_wp2
      go_ret
      exact ⟨rfl, _, HT.out, HK1.out⟩
    rw [if_neg h3] at hr
    by_cases h4 : nd = 0
    · rw [if_neg (by simpa using h4), if_neg (by simp), if_neg (by simp)] at hr
      subst hr
      subst h4
      go_enter Try.func101, Try.ntmps101
      go_wp2_with fail
      have hc : (((dep + 1 : Nat)) : Int) = (dep : Int) + 1 := by omega
      have hcall := hrow1.out _ HKe.out HK1.out (by omega)
      rw [hc] at hcall
      refine hcall.mono ?_
      rintro e w4 ⟨rfl, o4, T4, hK4⟩
      have HT4 := Lib.hid (HT.out.trans T4 (fun _ h => h))
      have HK4 := Lib.hid hK4
      clear T4 hK4 hcall
      go_wp2
      go_ret
      exact ⟨rfl, _, HT4.out, HK4.out⟩
    · have h4i : (nd == 0) = false := by simpa using h4
      rw [if_pos (by simpa using h4)] at hr
      subst hr
      go_enter Try.func101, Try.ntmps101
      go_wp2
      go_ret
      exact ⟨rfl, _, HT.out, HK1.out⟩
end Go.Proofs.Ytbmbfifempkhgaa
