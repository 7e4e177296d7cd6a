/- The statements' 'ask': the rates, the state. -/
import Derived.Test.YtknmiiajeafjpaaLawA
namespace Go.Proofs.Ytknmiiajeafjpaa
open Go.RowKit

theorem outs_lits {w : World} {o : Col} {c n : Nat} {vs : List Value} {xss : List (List Int)} (hl : vs.length = xss.length) (hn : n = w.heap.size) (ho : o n = c) (hr : ∀ k, k < xss.length → Own w o c 3 1 (vs[k]?.getD undef) (xss[k]?.getD []).length (ivs (xss[k]?.getD [])))
    (hd : ∀ i j B, i < j → j < xss.length → (vs[i]?.getD undef).ownBlock = some B → (vs[j]?.getD undef).ownBlock ≠ some B) (hs : vs.length ≤ 1000) : Outs (w.alloc (.cells vs.toArray 22)) o c (.slice (some ⟨n, 0, none⟩) vs.length vs.length) xss := by
  subst hn
  have T : Turn o o (fun _ => False) w (w.alloc (.cells vs.toArray 22)) := ⟨(Mods.refl _ _).alloc _, fun _ _ => rfl⟩
  refine ⟨vs, hl, ⟨⟨by simp, .inr ⟨w.heap.size, vs.length, vs.toArray, rfl, Nat.zero_le _, heap_alloc_new w _, Nat.le_refl _, by unfold maxLen; omega, by simp, by simp [List.take_of_length_le]⟩⟩, fun k hk => ?_⟩, fun k hk => (hr k hk).turn T (fun h => h), hd, fun i B hi hB e => ?_⟩
  · obtain rfl := Option.some.inj hk
    exact ho
  · obtain rfl := Option.some.inj e
    exact absurd ((hr i hi).1.lt _ hB).2 (Nat.lt_irrefl _)

theorem apart_below {w w' : World} {N : Nat} {o : Col} {c : Nat} (h : Mods (fun k => o k = c) w w') (hN : N ≤ w.heap.size) (ho : ∀ k, k < N → o k ≠ c) : Below N w w' := h.below hN (fun k hk e => ho k hk e)


set_option maxRecDepth 100000 in
set_option maxHeartbeats 2000000 in
theorem ask_2 {w : World} {o : Col} {c d r b : Nat} {t n : Int} {ps keep : List Int} {v : Value} (hA : Act w o c d b t ps keep n) (hR : RAct w o r v t ps keep n) :
    Calls Try.prog 29 #[.pointer (some ⟨b, 0, none⟩), v, .int .i64 2] w fun e w' => e = .returned (.bool true) ∧ Below w.heap.size w w' := by
  have hKp := hA.kp
  have hkl := hA.keep_le
  obtain ⟨vp, vi, vo, vk, rfl, r1, r2, r3, r4⟩ := hR
  obtain ⟨a1, c1, rfl⟩ := r1.slice
  obtain ⟨a2, c2, rfl⟩ := r2.slice
  obtain ⟨a3, c3, rfl⟩ := r3.slice
  obtain ⟨a4, c4, rfl⟩ := r4.slice
  have hb0 := below_alloc w (.cells #[.int .u8 t, .slice a1 ps.length c1, .slice a2 (insP t ps).length c2, .slice a3 (outsP t ps).length c3, .slice a4 keep.length c4, .int .i64 n] 48)
  have HA := Lib.hid (hA.below 99 hb0)
  have HI := Lib.hid (r2.has.below hb0)
  have HO := Lib.hid (r3.has.below hb0)
  have HKV := Lib.hid (r4.has.below hb0)
  have HB0 := Lib.hid hb0
  have HKL := Lib.hid hkl
  have HRT := Lib.hid (rates_len hKp.good)
  have HS := Lib.hid (six_new w (.int .u8 t) (.slice a1 ps.length c1) (.slice a2 (insP t ps).length c2) (.slice a3 (outsP t ps).length c3) (.slice a4 keep.length c4) (.int .i64 n) 48)
  clear hA hKp hkl r1 r2 r3 r4 hb0
  go_enter Try.func29, Try.ntmps29
  go_wp2_with fail
  refine (State_act HA.out).mono ?_
  rintro e w4 ⟨sv, rfl, so, hb4⟩
  obtain ⟨sa, sc, rfl⟩ := owns_slice so
  have hV4 := Own.made (fun _ => 0) 50 so
  have HV4 := Lib.hid hV4
  have HK4 := Lib.hid (HKV.out.below hb4)
  have HB4 := Lib.hid (HB0.out.trans (hb4.mono HB0.out.size))
  have hS4 := HS.out.below hb4
  have q4 := hS4.2.2.2.2.1
  clear so hb4 hV4 hS4
  go_wp2_with fail
  refine (sameints_yes HV4.out.vals.has HK4.out (by have := HKL.out; omega)).mono ?_
  rintro e w5 ⟨rfl, m5, rfl⟩
  have hs4 : w.heap.size ≤ w4.heap.size := HB4.out.size
  have hO := outs_lits (w := w4.drewN m5) (o := fun k => if k < w.heap.size then 0 else 50) (c := 50) (n := w4.heap.size) (vs := [.slice sa keep.length sc]) (xss := [keep]) rfl rfl (by simp [Nat.not_lt.2 hs4]) (fun k hk => by
    obtain rfl : k = 0 := by simpa using hk
    exact (HV4.out.drewN m5).recol (fun j hj => by
      have := HV4.out.2 j hj
      have hj2 : ¬ j < w.heap.size := fun hlt => by
        rw [ext_old (by simp; omega)] at this; cases this
      simp [hj2])) (fun i j B hij hj => by simp at hj; omega) (by simp)
  have HOo := Lib.hid hO
  clear hO q4
  go_wp2_with fail
  refine (apart_yes HOo.out (by simp) (fun l hl => by rw [List.mem_singleton.1 hl]; have := HKL.out; omega)).mono ?_
  rintro e w6 ⟨rfl, hm6⟩
  have hb6 : Below w.heap.size w w6 := ((below_n HB4.out m5).alloc hs4 _).trans (hm6.below (Nat.le_trans hs4 (by simp)) (fun k hk e => by simp [hk] at e))
  clear hm6
  go_wp2
  go_ret
  exact ⟨rfl, hb6⟩

set_option maxRecDepth 100000 in
set_option maxHeartbeats 2000000 in
theorem ask_1 {w : World} {o : Col} {c d r b : Nat} {t n : Int} {ps keep : List Int} {v : Value} (hA : Act w o c d b t ps keep n) (hR : RAct w o r v t ps keep n) :
    Calls Try.prog 29 #[.pointer (some ⟨b, 0, none⟩), v, .int .i64 1] w fun e w' => e = .returned (.bool true) ∧ Below w.heap.size w w' := by
  have hKp := hA.kp
  have hkl := hA.keep_le
  obtain ⟨vp, vi, vo, vk, rfl, r1, r2, r3, r4⟩ := hR
  obtain ⟨a1, c1, rfl⟩ := r1.slice
  obtain ⟨a2, c2, rfl⟩ := r2.slice
  obtain ⟨a3, c3, rfl⟩ := r3.slice
  obtain ⟨a4, c4, rfl⟩ := r4.slice
  have hb0 := below_alloc w (.cells #[.int .u8 t, .slice a1 ps.length c1, .slice a2 (insP t ps).length c2, .slice a3 (outsP t ps).length c3, .slice a4 keep.length c4, .int .i64 n] 48)
  have HA := Lib.hid (hA.below 99 hb0)
  have HI := Lib.hid (r2.has.below hb0)
  have HO := Lib.hid (r3.has.below hb0)
  have HKV := Lib.hid (r4.has.below hb0)
  have HB0 := Lib.hid hb0
  have HKL := Lib.hid hkl
  have HRT := Lib.hid (rates_len hKp.good)
  have HS := Lib.hid (six_new w (.int .u8 t) (.slice a1 ps.length c1) (.slice a2 (insP t ps).length c2) (.slice a3 (outsP t ps).length c3) (.slice a4 keep.length c4) (.int .i64 n) 48)
  clear hA hKp hkl r1 r2 r3 r4 hb0
  go_enter Try.func29, Try.ntmps29
  go_wp2_with fail
  refine (Shape_act HA.out).mono ?_
  rintro e w4 ⟨g1, d1, g2, d2, rfl, so1, so2, hne, hb4⟩
  have HV4 := Lib.hid (Own.made (fun _ => 0) 50 so1)
  have HW4 := Lib.hid (Own.made (fun _ => 0) 50 so2)
  have HI4 := Lib.hid (HI.out.below hb4)
  have HO4 := Lib.hid (HO.out.below hb4)
  have HB4 := Lib.hid (HB0.out.trans (hb4.mono HB0.out.size))
  have HS4 := Lib.hid (HS.out.below hb4)
  have HNE := Lib.hid hne
  have q2 := HS4.out.2.2.1
  clear so1 so2 hb4 hne
  go_wp2_with fail
  refine (sameints_yes HV4.out.vals.has HI4.out (by have := HRT.out.1; omega)).mono ?_
  rintro e w5 ⟨rfl, m5, rfl⟩
  have q3 : (w4.drewN m5).cell? ⟨w.heap.size, 3, none⟩ = some (.slice a3 (outsP t ps).length c3) := HS4.out.2.2.2.1
  go_wp2_with fail
  refine (sameints_yes (HW4.out.vals.has.drewN m5) (HO4.out.drewN m5) (by have := HRT.out.2; omega)).mono ?_
  rintro e w6 ⟨rfl, m6, rfl⟩
  have hs4 : w.heap.size ≤ w4.heap.size := HB4.out.size
  have hrec : ∀ {sa : Option Addr} {k cp : Nat} {l : List Int}, Own w4 (ext (fun _ => 0) (w.alloc (.cells #[.int .u8 t, .slice a1 ps.length c1, .slice a2 (insP t ps).length c2, .slice a3 (outsP t ps).length c3, .slice a4 keep.length c4, .int .i64 n] 48)).heap.size 50) 50 3 1 (.slice sa k cp) k (ivs l) → Own (w4.drewN (m5 + m6)) (fun k => if k < w.heap.size then 0 else 50) 50 3 1 (.slice sa k cp) k (ivs l) := fun {sa k cp l} h =>
    (h.drewN (m5 + m6)).recol (fun j hj => by
      have := h.2 j hj
      have hj2 : ¬ j < w.heap.size := fun hlt => by
        rw [ext_old (by simp; omega)] at this; cases this
      simp [hj2])
  have hO := outs_lits (w := w4.drewN (m5 + m6)) (o := fun k => if k < w.heap.size then 0 else 50) (c := 50) (n := w4.heap.size) (vs := [.slice (some ⟨g1, 0, none⟩) (insP t ps).length d1, .slice (some ⟨g2, 0, none⟩) (outsP t ps).length d2]) (xss := [insP t ps, outsP t ps]) rfl rfl (by simp [Nat.not_lt.2 hs4]) (fun k hk => by
    have : k = 0 ∨ k = 1 := by simp at hk; omega
    rcases this with rfl | rfl
    · exact hrec HV4.out
    · exact hrec HW4.out) (fun i j B hij hj hB => by
      have : i = 0 ∧ j = 1 := by simp at hj; omega
      obtain ⟨rfl, rfl⟩ := this
      have e1 : g1 = B := Option.some.inj hB
      intro hB2
      have e2 : g2 = B := Option.some.inj hB2
      exact HNE.out (e1.trans e2.symm)) (by simp)
  have HOo := Lib.hid hO
  have hb5 := Lib.hid (below_n HB4.out (m5 + m6))
  clear hO q2 q3 hrec
  go_wp2_with fail
  refine (apart_yes HOo.out (by simp) (fun l hl => by
    have hr := HRT.out
    rcases List.mem_cons.1 hl with rfl | hl
    · omega
    · rw [List.mem_singleton.1 hl]; omega)).mono ?_
  rintro e w7 ⟨rfl, hm7⟩
  have hb7 : Below w.heap.size w w7 := (hb5.out.alloc hs4 _).trans (hm7.below (Nat.le_trans hs4 (by simp)) (fun k hk e => by simp [hk] at e))
  clear hm7
  go_wp2
  go_ret
  exact ⟨rfl, hb7⟩

theorem ask_any {w : World} {o : Col} {c d r b : Nat} {t n k : Int} {ps keep : List Int} {v : Value} (hA : Act w o c d b t ps keep n) (hR : RAct w o r v t ps keep n) :
    Calls Try.prog 29 #[.pointer (some ⟨b, 0, none⟩), v, .int .i64 k] w fun e w' => e = .returned (.bool true) ∧ Below w.heap.size w w' := by
  by_cases h1 : k = 1
  · subst h1; exact ask_1 hA hR
  by_cases h2 : k = 2
  · subst h2; exact ask_2 hA hR
  by_cases h3 : k = 3
  · subst h3; exact ask_3 hA hR
  exact ask_else hA hR h1 h2 h3
end Go.Proofs.Ytknmiiajeafjpaa
