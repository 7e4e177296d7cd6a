/- The statements' 'awake': a sum, and what it keeps. -/
import Derived.Test.YtknmiiajeafjpaaSame
namespace Go.Proofs.Ytknmiiajeafjpaa
open Go.RowKit

theorem below_n {B : Nat} {w w' : World} (h : Below B w w') (n : Nat) : Below B w (w'.drewN n) := ⟨h.os, h.tape, h.output, h.size, h.block⟩

theorem has_lit (w : World) (l : List Int) (e : TypeId) (n : Nat) (hn : n = w.heap.size) (hl : l.length ≤ 1000000) : Has (w.alloc (.cells (ivs l).toArray e)) (.slice (some ⟨n, 0, none⟩) l.length l.length) (ivs l) := by
  subst hn
  by_cases hp : 0 < l.length
  · refine .inr ⟨by simpa using hp, w.heap.size, 0, l.length, by simp, by simp, by simp, rfl, fun k hk => ?_⟩
    rw [Nat.zero_add]
    have hk' : k < l.length := by simpa using hk
    exact cells_row _ _ (heap_alloc_new w _) k _ (by simp [ivs, hk'])
  · obtain rfl : l = [] := List.eq_nil_of_length_eq_zero (by omega)
    exact .inl ⟨rfl, _, _, rfl⟩

/-- one row, just made -/
theorem ll_row {w : World} {v : Value} {l : List Int} {n : Nat} (e : TypeId) (hn : n = w.heap.size) (hv : Has w v (ivs l)) : LL (w.alloc (.cells #[v] e)) (.slice (some ⟨n, 0, none⟩) 1 1) [l] := by
  subst hn
  refine ⟨[v], rfl, .inr ⟨by simp, w.heap.size, 0, 1, rfl, Nat.le_refl _, by simp, rfl, fun k hk => ?_⟩, fun k hk => ?_⟩
  · obtain rfl : k = 0 := by simp at hk; omega
    exact cells_row _ _ (heap_alloc_new w _) 0 v rfl
  · obtain rfl : k = 0 := by simp at hk; omega
    exact hv.below ((Below.refl _ _).alloc (Nat.le_refl _) _)
theorem ll_lit (w : World) (l : List Int) (e e2 : TypeId) (n m : Nat) (hn : n = w.heap.size) (hm : m = w.heap.size + 1) (hl : l.length ≤ 1000000) : LL ((w.alloc (.cells (ivs l).toArray e)).alloc (.cells #[.slice (some ⟨n, 0, none⟩) l.length l.length] e2)) (.slice (some ⟨m, 0, none⟩) 1 1) [l] :=
  ll_row e2 (by simp [hm]) (has_lit w l e n hn hl)

theorem Fire_fit {w : World} {o : Col} {c d b : Nat} {t : Int} {ps keep : List Int} {n : Int} {K : Nat} {vi vo vt vs insv : Value} {xss : List (List Int)} {r : Option (List (List Int) × List Int)} (E : Nat) (hE : E ≠ c) (h : BodyAt w o c d b t ps keep n K vi vo vt vs) (hins : LL w insv xss) (hf : ∀ l ∈ xss, ∀ x ∈ l, Fits x) (hn1 : Fits (n + 1))
    (hfit : xss.map (fun l => (l.length : Int)) = insP t ps) (hr : reckP t ps keep xss = r) : Calls Try.prog 14 #[.pointer (some ⟨b, 0, none⟩), insv] w (Fired w o c d E b t ps n K vi vo vt true r) := by
  have := Fire_any E hE h hins hf hn1
  rwa [decide_eq_true hfit, hr] at this
theorem Fire_not {w : World} {o : Col} {c d b : Nat} {t : Int} {ps keep : List Int} {n : Int} {K : Nat} {vi vo vt vs insv : Value} {xss : List (List Int)} (h : BodyAt w o c d b t ps keep n K vi vo vt vs) (hins : LL w insv xss) (hf : ∀ l ∈ xss, ∀ x ∈ l, Fits x) (hn1 : Fits (n + 1))
    (hfit : ¬ xss.map (fun l => (l.length : Int)) = insP t ps) : Calls Try.prog 14 #[.pointer (some ⟨b, 0, none⟩), insv] w fun e w' => e = .returned (.tuple #[.slice none 0 0, .int .i64 1]) ∧ Below w.heap.size w w' := by
  have := Fire_any (c + 1) (by omega) h hins hf hn1
  rwa [decide_eq_false hfit] at this

set_option maxRecDepth 100000 in
set_option maxHeartbeats 2000000 in
theorem awake_yes (w : World) : Calls Try.prog 13 #[] w fun e w' => e = .returned (.bool true) ∧ Below w.heap.size w w' := by
  have f4 : Fits 4 := by unfold Fits; omega
  go_enter Try.func13, Try.ntmps13
  go_wp2_with fail
  refine (New_ok (t := 8) (ps := []) (fun _ => 0) 1 2 (by decide) (by simp [goodP]) (fun x hx => by cases hx) (Vals.nil w (fun _ => 0) 0 none 0)).mono ?_
  rintro e w1 ⟨b, K, vi, vo, vt, vs, o1, rfl, T1, B1⟩
  have hb1 : Below w.heap.size w w1 := T1.below (Nat.le_refl _) (fun _ _ h => h)
  have HB1 := Lib.hid B1
  have HT1 := Lib.hid T1
  clear B1 T1
  go_wp2_with fail
  have hbA : Below w1.heap.size w1 ((w1.alloc (.cells #[.int .i64 4] 3)).alloc (.cells #[.slice (some ⟨w1.heap.size, 0, none⟩) 1 1] 22)) := ((Below.refl _ _).alloc (Nat.le_refl _) _).alloc (by simp) _
  have hFA := Fire_fit 4 (by decide) (HB1.out.turn (Turn.of_below o1 3 hbA) (fun h => h) (fun h => h)) (ll_lit w1 [4] 3 22 _ _ rfl rfl (by simp)) (fun l hl x hx => by
    rw [List.mem_singleton.1 hl] at hx; rw [List.mem_singleton.1 hx]; exact f4) (by unfold Fits; omega) (by decide) (show reckP 8 [] (keep0 8 []) [[4]] = some ([[4]], [4]) by simp [reckP, keep0, hd, Fits])
  refine hFA.mono ?_
  rintro e w2 ⟨ov, vs', o2, rfl, T2, B2, O2⟩
  have hb2 : Below w.heap.size w w2 := hb1.trans ((hbA.mono hb1.size).trans (T2.below (by simp; have := hb1.size; omega) (fun k hk e => by
    have := HT1.out.same k (by omega)
    rw [ext_old (by have := hb1.size; omega), this] at e
    cases e)))
  clear hFA hbA
  obtain ⟨av, cv, rfl⟩ := O2.ll.slice
  obtain ⟨bv, ofv, rfl, hcv, hrow⟩ := O2.ll.at (by simp)
  obtain ⟨a0, c0, hr0, hh0⟩ := hrow 0 (by simp)
  have HB2 := Lib.hid B2
  have HR0 := Lib.hid hh0
  have hcvi : (1 : Int) ≤ cv := by simp at hcv; omega
  simp only [Nat.add_zero] at hr0
  clear B2 O2 hrow hh0 T2 hb1
  go_wp2_with fail
  have hbB : Below w2.heap.size w2 (w2.alloc (.cells #[.int .i64 4] 3)) := (Below.refl _ _).alloc (Nat.le_refl _) _
  refine (sameints_yes (l := [4]) (HR0.out.below hbB) (has_lit w2 [4] 3 _ rfl (by simp)) (by simp)).mono ?_
  rintro e w3 ⟨rfl, m, rfl⟩
  have hb3 : Below w2.heap.size w2 ((w2.alloc (.cells #[.int .i64 4] 3)).drewN m) := below_n hbB m
  have HB3 := Lib.hid (HB2.out.turn (Turn.of_below o2 3 hb3) (fun h => h) (fun h => h))
  generalize hw3 : (w2.alloc (.cells #[.int .i64 4] 3)).drewN m = w3 at *
  have hs2 := hb2.size
  clear hw3 hbB
  go_wp2_with fail
  refine (Fired_body HB3.out).mono ?_
  rintro e w3' ⟨rfl, rfl⟩
  go_wp2_with fail
  refine (State_body HB3.out).mono ?_
  rintro e w4 ⟨v, rfl, ho4, hb4⟩
  have HV4 := Lib.hid (Own.made (fun _ => 0) 0 ho4).vals.has
  obtain ⟨a4, c4, rfl⟩ := owns_slice ho4
  have hs4 := hb3.size
  clear ho4
  go_wp2_with fail
  have hbB : Below w4.heap.size w4 (w4.alloc (.cells #[.int .i64 4] 3)) := (Below.refl _ _).alloc (Nat.le_refl _) _
  refine (sameints_yes (l := [4]) (HV4.out.below hbB) (has_lit w4 [4] 3 _ rfl (by simp)) (by simp)).mono ?_
  rintro e w5 ⟨rfl, m5, rfl⟩
  have hb5 : Below w.heap.size w ((w4.alloc (.cells #[.int .i64 4] 3)).drewN m5) := hb2.trans ((hb3.mono hs2).trans ((hb4.mono (by omega)).trans ((below_n hbB m5).mono (by have := hb4.size; omega))))
  generalize hw5 : (w4.alloc (.cells #[.int .i64 4] 3)).drewN m5 = w5 at *
  clear hw5
  go_wp2
  go_ret
  exact ⟨rfl, hb5⟩
end Go.Proofs.Ytknmiiajeafjpaa
