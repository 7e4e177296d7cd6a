/- A list lent, and looked at again: Lent, Kept. -/
import Derived.Test.YtknmiiajeafjpaaAct
namespace Go.Proofs.Ytknmiiajeafjpaa
open Go.RowKit

theorem new_cells {w w' : World} {B : Nat} {ao : Option Addr} {vs : List Value} (hb : Below B w w') (h : ∀ ad, ao = some ad → ∀ j u, vs[j]? = some u → w.cell? (ad.add j) = some u) (hB : ∀ k, k < w.heap.size → k < B := by intro k hk; exact hk) : ∀ ad, ao = some ad → ∀ j u, vs[j]? = some u → w'.cell? (ad.add j) = some u := fun ad had j u hu =>
  (hb.cell (hB _ (World.block_lt_of_cell? _ _ (h ad had j u hu)))).trans (h ad had j u hu)

set_option maxHeartbeats 800000 in
theorem lent_any (w : World) (zs : List Int) (ao : Option Addr) (zc : Nat) (hz : zs.length ≤ 17600000000000) (hnone : ao = none → zs.length = 0) (hcz : ∀ ad, ao = some ad → ∀ j u, (zs.map (Value.int .i64))[j]? = some u → w.cell? (ad.add j) = some u) :
    Calls Try.prog 25 #[.slice ao zs.length zc] w fun e w' => ∃ g cap, e = .returned (.slice (some ⟨g, 0, none⟩) zs.length cap) ∧
      w'.ownsRow w.heap.size 3 1 (.slice (some ⟨g, 0, none⟩) (zs.length + 4) cap) (zs.length + 4) ((zs ++ List.replicate 4 (-7770777)).map (Value.int .i64)) ∧ Below w.heap.size w w' := by
  obtain ⟨i0, hi, hz0, hz1, hz2⟩ := info_parts info_int
  have HZ := Lib.hid hz
  have Hnone := Lib.hid hnone
  have Hcz := Lib.hid hcz
  have hzi : (zs.length : Int) + 4 ≤ 4611686018427387904 := by omega
  clear hz hnone hcz
  go_enter Try.func25, Try.ntmps25
  obtain ⟨w1, hr, hown, hg⟩ := run_make_own (P := Try.prog) w w.heap.size 22 3 i0 _ 1 Try.underlying22 hi hz0 hz1 .i64 .i64 (zs.length + 4) (by rw [hz2]; have := HZ.out; omega) (by have := HZ.out; unfold maxLen; omega) (Nat.le_refl _)
  have hcast : ((zs.length + 4 : Nat) : Int) = (zs.length : Int) + 4 := by omega
  rw [hcast] at hr
  go_wp2_with (at_builtin; refine stop_here ?_)
  refine go_on ?_
  have hm1 : Mods (fun _ => False) w w1 := (Mods.refl (fun _ => False) w).grown hg (fun k hk _ => by simp at hk)
  have hsz1 := hm1.size
  have hcz1 : ∀ ad, ao = some ad → ∀ j u, (zs.map (Value.int .i64))[j]? = some u → w1.cell? (ad.add j) = some u := new_cells (below_mods hm1) Hcz.out
  refine wpList_app rfl _ _ 22 rfl w.heap.size 3 i0 _ 1 8 Try.underlying22 hi hz0 hz1 hz2 rfl (.slice (some ⟨w.heap.size, 0, none⟩) 0 (zs.length + 4)) 0 [] rfl hown ao zs.length zc (zs.map (Value.int .i64)) rfl (by simp) Hnone.out hcz1 (ivs_one zs) (by have := HZ.out; unfold maxLen; omega) (grow_ok (by have := HZ.out; omega)) hsz1 ?_
  intro v2 w2 g1 g20 _ g4
  have g2 : w1.grownBy w2 (Value.slice (some ⟨w.heap.size, 0, none⟩) 0 (zs.length + 4)).ownBlock := ⟨g20.os, g20.tape, g20.output, g20.size, g20.block⟩
  have hb2 : Below w.heap.size w w2 := (hm1.below (Nat.le_refl _) (fun _ _ h => h)).trans (((Mods.refl (fun k => k = w.heap.size) w1).grown g2 (fun k hk _ => (Option.some.inj hk).symm)).below hsz1 (fun k hk e => by omega))
  simp only [Nat.zero_add, List.nil_append] at g1
  have hT : ∃ v n, v2 = v ∧ n = zs.length ∧ w2.ownsRow w.heap.size 3 1 v n ((zs ++ List.replicate 0 (-7770777)).map (Value.int .i64)) := ⟨_, _, rfl, rfl, by simpa using g1⟩
  clear g20 g2 g4 hown hg hr hcast hcz1
  go_wp2_with fail
  go_loopw [3, 4] (fun v i wr => ∃ k : Nat, k ≤ 4 ∧ i = .int .i64 k ∧ wr.ownsRow w.heap.size 3 1 v (zs.length + k) ((zs ++ List.replicate k (-7770777)).map (Value.int .i64)) ∧ Below w.heap.size w wr) (fun _ i _ => 4 - (intOf i).toNat)
  case atStart => exact ⟨0, by omega, rfl, by simpa using g1, hb2⟩
  case round =>
    clear hT g1 hb2
    obtain ⟨k, hk, rfl, hrow, hbw⟩ := hrel
    have hsz := hbw.size
    obtain ⟨sv, cv, rfl⟩ := owns_slice hrow
    by_cases hlt : k < 4
    · have hki : (k : Int) < 4 := by omega
      go_wp2_with (at_builtin; refine stop_here ?_)
      refine go_on ?_
      refine wpList_app rfl _ _ 22 rfl w.heap.size 3 i0 _ 1 8 Try.underlying22 hi hz0 hz1 hz2 rfl (.slice sv (zs.length + k) cv) (zs.length + k) _ rfl (hrow.alloc (.cells #[.int .i64 (-7770777)] 3)) (some ⟨wr.heap.size, 0, none⟩) 1 1 [.int .i64 (-7770777)] rfl rfl (fun h => by cases h) (news_alloc wr [.int .i64 (-7770777)] 3) (by simp [Value.oneCell']) (by have := HZ.out; unfold maxLen; omega) (grow_ok (by have := HZ.out; omega)) (size_le_alloc hsz _) ?_
      intro v5 w5 k1 k20 _ _
      have k2 : (wr.alloc (.cells #[.int .i64 (-7770777)] 3)).grownBy w5 (Value.slice sv (zs.length + k) cv).ownBlock := ⟨k20.os, k20.tape, k20.output, k20.size, k20.block⟩
      have hb5 := hbw.trans (below_app hrow k2 hsz)
      have k3 : w5.ownsRow w.heap.size 3 1 v5 (zs.length + (k + 1)) ((zs ++ List.replicate (k + 1) (-7770777)).map (Value.int .i64)) := by
        rw [List.replicate_succ', ← List.append_assoc, List.map_append]; exact k1
      clear k1 k20 k2 hrow
      go_wp2
      go_roundw
      case rel => exact ⟨k + 1, by omega, by go_num, k3, hb5⟩
      case measure => simp [intOf]; omega
    · obtain rfl : k = 4 := by omega
      obtain ⟨_, hcap, g, hg, rfl, _⟩ := owns_cell hrow (by simp)
      have hcapi : (zs.length : Int) ≤ cv := by omega
      go_wp2
      go_ret
      exact ⟨g, cv, rfl, by simpa using hrow, hbw⟩

/-- the own list, and the marked room behind it, as they are -/
def Lends (w : World) (g n cap : Nat) (zs : List Int) : Prop :=
  n = zs.length ∧ n + 4 ≤ cap ∧ g < w.heap.size ∧ (∀ k, k < n → w.cell? ⟨g, k, none⟩ = some (.int .i64 (zs[k]?.getD 0))) ∧ ∀ k, n ≤ k → k < n + 4 → w.cell? ⟨g, k, none⟩ = some (.int .i64 (-7770777))

theorem lends_of_owns {w : World} {base g cap : Nat} {zs : List Int} (h : w.ownsRow base 3 1 (.slice (some ⟨g, 0, none⟩) (zs.length + 4) cap) (zs.length + 4) ((zs ++ List.replicate 4 (-7770777)).map (Value.int .i64))) : Lends w g zs.length cap zs := by
  obtain ⟨_, hcap, g', _, e, hc, _, hg⟩ := owns_cell h (by simp)
  cases e
  refine ⟨rfl, hcap, hg, fun k hk => hc k _ ?_, fun k h1 h2 => hc k _ ?_⟩
  · simp [List.getElem?_append_left, hk]
  · rw [List.getElem?_map, List.getElem?_append_right h1, List.getElem?_replicate, if_pos (by omega)]
    rfl

theorem Lends.below {w w' : World} {g n cap : Nat} {zs : List Int} (h : Lends w g n cap zs) (hb : Below w.heap.size w w') : Lends w' g n cap zs :=
  ⟨h.1, h.2.1, Nat.lt_of_lt_of_le h.2.2.1 hb.size, fun k hk => cell_later hb (h.2.2.2.1 k hk), fun k h1 h2 => cell_later hb (h.2.2.2.2 k h1 h2)⟩

theorem Lends.has {w : World} {g n cap c : Nat} {zs : List Int} (h : Lends w g n cap zs) (hc : n ≤ c) : Has w (.slice (some ⟨g, 0, none⟩) n c) (ivs zs) := by
  obtain ⟨rfl, _, hg, hcl, _⟩ := h
  by_cases hp : 0 < zs.length
  · exact .inr ⟨by simpa using hp, g, 0, c, by simp, by simpa using hc, hg, rfl, fun k hk => by
      have hk' : k < zs.length := by simpa using hk
      rw [ivs_get hk', Nat.zero_add]; exact hcl k hk'⟩
  · obtain rfl : zs = [] := List.eq_nil_of_length_eq_zero (by omega)
    exact .inl ⟨rfl, _, c, rfl⟩

set_option maxHeartbeats 800000 in
theorem kept_yes (w : World) (zs : List Int) (g cap : Nat) (ao : Option Addr) (zc : Nat) (hz : zs.length ≤ 17600000000000) (h : Lends w g zs.length cap zs) (hv : Has w (.slice ao zs.length zc) (ivs zs)) :
    Calls Try.prog 26 #[.slice (some ⟨g, 0, none⟩) zs.length cap, .slice ao zs.length zc] w fun e w' => e = .returned (.bool true) ∧ ∃ m, w' = w.drewN m := by
  have HZ := Lib.hid hz
  have hzi : (zs.length : Int) + 4 ≤ 4611686018427387904 := by omega
  have hs := h.has (c := cap) (by have := h.2.1; omega)
  obtain ⟨_, hcap, hg, _, hmk⟩ := h
  have HM := Lib.hid hmk
  have hcapi : (zs.length : Int) + 4 ≤ cap := by omega
  clear hz hmk
  go_enter Try.func26, Try.ntmps26
  go_wp2_with fail
  refine (sameints_yes hs hv (by have := HZ.out; omega)).mono ?_
  rintro e w1 ⟨rfl, m1, rfl⟩
  go_wp2_with fail
  go_loopw [6] (fun i wr => ∃ k : Nat, zs.length ≤ k ∧ k ≤ zs.length + 4 ∧ i = .int .i64 k ∧ ∃ m, wr = w.drewN m) (fun i _ => zs.length + 4 - (intOf i).toNat)
  case atStart => exact ⟨zs.length, Nat.le_refl _, by omega, rfl, _, rfl⟩
  case round =>
    obtain ⟨k, hk0, hk, rfl, m, rfl⟩ := hrel
    by_cases hlt : k < zs.length + 4
    · have hc := HM.out k hk0 hlt
      have hlti : (k : Int) < (zs.length : Int) + 4 := by omega
      go_wp2
      go_roundw
      case rel => exact ⟨k + 1, by omega, by omega, by go_num, _, rfl⟩
      case measure => simp [intOf]; omega
    · have hlti : ¬ (k : Int) < (zs.length : Int) + 4 := by omega
      go_wp2
      go_ret
      exact ⟨rfl, _, rfl⟩
theorem lent_has {w : World} {v : Value} {zs : List Int} (hz : zs.length ≤ 17600000000000) (hv : Has w v (ivs zs)) :
    Calls Try.prog 25 #[v] w fun e w' => ∃ g cap, e = .returned (.slice (some ⟨g, 0, none⟩) zs.length cap) ∧
      w'.ownsRow w.heap.size 3 1 (.slice (some ⟨g, 0, none⟩) (zs.length + 4) cap) (zs.length + 4) ((zs ++ List.replicate 4 (-7770777)).map (Value.int .i64)) ∧ Below w.heap.size w w' := by
  obtain ⟨ao, cap, rfl⟩ := hv.slice
  obtain ⟨h1, h2⟩ := hv.news
  rw [ivs_len] at h1 ⊢
  exact lent_any w zs ao cap hz h1 h2
end Go.Proofs.Ytknmiiajeafjpaa
