/- The reference's fits. -/
import Derived.Test.YtknmiiajeafjpaaFireall
import Derived.Test.YtknmiiajeafjpaaRefNew
import Derived.Test.YtknmiiajeafjpaaTimes
import Derived.Test.YtknmiiajeafjpaaRefNew2
import Derived.Test.YtknmiiajeafjpaaWeaveLaw
import Derived.Test.YtknmiiajeafjpaaReckon
import Derived.Test.YtknmiiajeafjpaaReg3
namespace Go.Proofs.Ytknmiiajeafjpaa
open Go.RowKit

set_option maxHeartbeats 1000000 in
theorem rfits_any (w : World) (t n : Int) (vp vi vo vk insv : Value) (xss : List (List Int)) (L : List Int) (hL : L.length ≤ 64) (hi : Has w vi (ivs L)) (hins : LL w insv xss) :
    Calls Try.prog 47 #[.agg #[.int .u8 t, vp, vi, vo, vk, .int .i64 n], insv] w fun e w' => e = .returned (.bool (decide (xss.map (fun l => (l.length : Int)) = L))) ∧ Below w.heap.size w w' := by
  obtain ⟨ia, ic, rfl⟩ := hins.slice
  obtain ⟨va, vc, rfl⟩ := hi.slice
  rw [ivs_len] at hi ⊢
  by_cases hlen : xss.length = L.length
  · have HL := Lib.hid hlen
    have hli : (xss.length : Int) = L.length := by omega
    have hlb : (xss.length : Int) ≤ 64 := by omega
    have HLI := Lib.hid hli
    have HI := Lib.hid hi
    have HX := Lib.hid hins
    have hb0 := below_alloc w (.cells #[.int .u8 t, vp, .slice va L.length vc, vo, vk, .int .i64 n] 48)
    have HB0 := Lib.hid hb0
    rw [← hlen]
    clear hlen hi hins hli hb0
    go_enter Try.func47, Try.ntmps47
    go_wp2_with fail
    go_loopw [5] (fun i wr => ∃ j : Nat, j ≤ xss.length ∧ i = .int .i64 j ∧ (∃ m, wr = (w.alloc (.cells #[.int .u8 t, vp, .slice va xss.length vc, vo, vk, .int .i64 n] 48)).drewN m) ∧ ∀ k, k < j → ((xss[k]?.getD []).length : Int) = L[k]?.getD 0) (fun i _ => xss.length - (intOf i).toNat)
    case atStart => exact ⟨0, Nat.zero_le _, rfl, ⟨0, rfl⟩, fun k hk => by omega⟩
    case round =>
      obtain ⟨j, hj, rfl, ⟨m, rfl⟩, hall⟩ := hrel
      have Hall := Lib.hid hall
      clear hall
      by_cases hjn : j < xss.length
      · have hjni : (j : Int) < xss.length := by omega
        obtain ⟨bi, oi, ie, hci, hrow⟩ := HX.out.at (by omega)
        subst ie
        obtain ⟨a0, c0, hr0, -⟩ := hrow j hjn
        obtain ⟨gb, go, eg, -, hcR, -, -, hcell⟩ := Vals.at HI.out (by rw [ivs_len]; have := HL.out; omega)
        subst eg
        have hx := hcell j (by rw [ivs_len]; have := HL.out; omega)
        rw [ivs_get (by have := HL.out; omega)] at hx
        have hr1 := cell_later HB0.out hr0
        have hx1 := cell_later HB0.out hx
        rw [← HL.out] at hr1 hx1
        have hciI : (xss.length : Int) ≤ vc := by have := HL.out; omega
        have hciI2 : (xss.length : Int) ≤ ic := by omega
        have HNO := Lib.hid (fun h => fit_no (R := L) hjn h)
        have HST := Lib.hid (fun (h : ((xss[j]?.getD []).length : Int) = L[j]?.getD 0) k (hk : k < j + 1) => (by
          by_cases hkj : k = j
          · rw [hkj]; exact h
          · exact Hall.out k (by omega) : ((xss[k]?.getD []).length : Int) = L[k]?.getD 0))
        clear hrow hcell hr0 hx
        generalize (xss[j]?.getD []).length = lm at *
        generalize L[j]?.getD 0 = rm at *
        by_cases hq : (lm : Int) = rm
        · have HQ := Lib.hid (HST.out hq)
          clear HST
          subst hq
          go_wp2
          go_quiet (fail)
          go_wp2
          go_roundw
          case rel => exact ⟨j + 1, by omega, by go_num, ⟨_, rfl⟩, HQ.out⟩
          case measure => simp [intOf]; omega
        · go_wp2
          go_quiet (fail)
          go_wp2
          go_ret
          rw [HNO.out hq]
          exact ⟨rfl, below_n (below_n (below_alloc w _) _) _⟩
      · obtain rfl : j = xss.length := by omega
        have HX2 := Lib.hid (fit_yes HL.out Hall.out)
        clear Hall
        go_wp2
        go_ret
        rw [HX2.out, decide_eq_true rfl]
        exact ⟨rfl, below_n (below_alloc w _) _⟩
  · have hli : ¬ (xss.length : Int) = L.length := by omega
    have HNE : Hid (decide (xss.map (fun l => (l.length : Int)) = L) = false) := Lib.hid (decide_eq_false fun e => hlen (by have := congrArg List.length e; simpa using this))
    clear hlen hi hins
    go_enter Try.func47, Try.ntmps47
    go_wp2
    go_ret
    rw [HNE.out]
    exact ⟨rfl, below_alloc w _⟩
end Go.Proofs.Ytknmiiajeafjpaa

/- The reference's Plus, and laid. -/
namespace Go.Proofs.Ytknmiiajeafjpaa
open Go.RowKit

set_option maxRecDepth 100000 in
set_option maxHeartbeats 1000000 in
theorem rplus_yes (w : World) (a b : Int) (_ha : Fits a) (hb : Fits b) (h : Fits (a + b)) : Calls Try.prog 56 #[.int .i64 a, .int .i64 b] w fun e w' => e = .returned (.tuple #[.int .i64 (a + b), .bool true]) ∧ w = w' := by
  unfold Fits at hb h
  by_cases h0 : 0 < b
  · have h1 : ¬ b < 0 := by omega
    go_enter Try.func56, Try.ntmps56
    go_wp2
    go_ret2
    exact ⟨rfl, rfl⟩
  · by_cases h1 : b < 0
    · go_enter Try.func56, Try.ntmps56
      go_wp2
      go_ret2
      exact ⟨rfl, rfl⟩
    · go_enter Try.func56, Try.ntmps56
      go_wp2
      go_ret2
      exact ⟨rfl, rfl⟩

set_option maxRecDepth 100000 in
set_option maxHeartbeats 1000000 in
theorem rplus_no (w : World) (a b : Int) (ha : Fits a) (hb : Fits b) (h : ¬ Fits (a + b)) : Calls Try.prog 56 #[.int .i64 a, .int .i64 b] w fun e w' => e = .returned (.tuple #[.int .i64 0, .bool false]) ∧ w = w' := by
  unfold Fits at ha hb h
  by_cases h0 : 0 < b
  · have h1 : 9223372036854775807 - b < a := by omega
    clear h
    go_enter Try.func56, Try.ntmps56
    go_wp2
    go_ret2
    exact ⟨rfl, rfl⟩
  · have h1 : b < 0 := by omega
    have h2 : a < -9223372036854775808 - b := by omega
    clear h
    go_enter Try.func56, Try.ntmps56
    go_wp2
    go_ret2
    exact ⟨rfl, rfl⟩

theorem rplus_any (w : World) (a b : Int) (ha : Fits a) (hb : Fits b) : Calls Try.prog 56 #[.int .i64 a, .int .i64 b] w fun e w' => e = .returned (optB (plusP a b)) ∧ w = w' := by
  by_cases h : Fits (a + b)
  · rw [show plusP a b = some (a + b) by simp [plusP, h]]
    exact rplus_yes w a b ha hb h
  · rw [show plusP a b = none by simp [plusP, h]]
    exact rplus_no w a b ha hb h

theorem times_yes (w : World) (a b : Int) (ha : Fits a) (hb : Fits b) (h : Fits (a * b)) : Calls Try.prog 17 #[.int .i64 a, .int .i64 b] w fun e w' => e = .returned (.tuple #[.int .i64 (a * b), .bool true]) ∧ w = w' := by
  have := times_any w a b ha hb
  rwa [show mulP a b = some (a * b) by simp [mulP, h]] at this
theorem times_no (w : World) (a b : Int) (ha : Fits a) (hb : Fits b) (h : ¬ Fits (a * b)) : Calls Try.prog 17 #[.int .i64 a, .int .i64 b] w fun e w' => e = .returned (.tuple #[.int .i64 0, .bool false]) ∧ w = w' := by
  have := times_any w a b ha hb
  rwa [show mulP a b = none by simp [mulP, h]] at this

set_option maxRecDepth 100000 in
set_option maxHeartbeats 2000000 in
theorem rlaid_any {o o' : Col} {c c' : Nat} (w : World) (ao bo : Option Addr) (n m cap cap' : Nat) (xs ys : List Int) (hx : Ints w o c (.slice ao n cap) xs) (hy : Ints w o' c' (.slice bo m cap') ys) (hxy : xs.length = ys.length) (hn : xs.length ≤ 17600000000000) (hfx : ∀ x ∈ xs, Fits x) (hfy : ∀ x ∈ ys, Fits x) :
    Calls Try.prog 55 #[.slice ao n cap, .slice bo m cap'] w (Quiet (optB (dotP 0 xs ys)) w) := by
  obtain rfl := hx.len
  obtain rfl := hy.len
  have HX := Lib.hid hx
  have HY := Lib.hid hy
  have HXY := Lib.hid hxy
  have HFX := Lib.hid hfx
  have HFY := Lib.hid hfy
  have hni : (xs.length : Int) ≤ 17600000000000 := by omega
  have f0 : Fits 0 := by unfold Fits; omega
  rw [← hxy]
  clear hx hy hxy hfx hfy
  go_enter Try.func55, Try.ntmps55
  go_wp2_with fail
  go_loopw [6, 7] (fun s i wr => ∃ (k : Nat) (acc : Int) (q : Nat), k ≤ xs.length ∧ s = .int .i64 acc ∧ i = .int .i64 k ∧ Fits acc ∧ dotP 0 xs ys = dotP acc (xs.drop k) (ys.drop k) ∧ wr = w.drewN q) (fun _ i _ => xs.length - (intOf i).toNat)
  case atStart => exact ⟨0, 0, 0, Nat.zero_le _, rfl, rfl, f0, by simp, rfl⟩
  case round =>
    obtain ⟨k, acc, q, hk, rfl, rfl, hfa, hd, hw⟩ := hrel
    have HW := Lib.hid hw
    clear hw
    have HFA := Lib.hid hfa
    have HD := Lib.hid hd
    clear hfa hd
    by_cases hlt : k < xs.length
    · have hlt2 : k < ys.length := by have := HXY.out; omega
      have hlti : (k : Int) < xs.length := by omega
      obtain ⟨b1, f1, rfl, -, hc1, -, -, hcell1⟩ := Vals.at HX.out (by rw [ivs_len]; omega)
      obtain ⟨b2, f2, rfl, -, hc2, -, -, hcell2⟩ := Vals.at HY.out (by rw [ivs_len]; omega)
      have hx1 := hcell1 k (by rw [ivs_len]; omega)
      have hx2 := hcell2 k (by rw [ivs_len]; omega)
      rw [ivs_get hlt] at hx1
      rw [ivs_get hlt2] at hx2
      rw [List.getElem?_eq_getElem hlt, Option.getD_some] at hx1
      rw [List.getElem?_eq_getElem hlt2, Option.getD_some] at hx2
      replace hx1 : wr.cell? ⟨b1, f1 + k, none⟩ = some (iv xs[k]) := (by rw [HW.out]; exact hx1)
      replace hx2 : wr.cell? ⟨b2, f2 + k, none⟩ = some (iv ys[k]) := (by rw [HW.out]; exact hx2)
      have hc1i : (xs.length : Int) ≤ cap := by omega
      have hc2i : (xs.length : Int) ≤ cap' := by have := HXY.out; omega
      have HS := Lib.hid (dotP_step (acc := acc) hlt hlt2)
      have HFx := Lib.hid (HFX.out _ (List.getElem_mem hlt))
      have HFy := Lib.hid (HFY.out _ (List.getElem_mem hlt2))
      clear hcell1 hcell2
      generalize xs[k] = x at *
      generalize ys[k] = y at *
      by_cases hf1 : Fits (x * y)
      · have Hf1 := Lib.hid hf1
        clear hf1
        go_wp2
        go_quiet ((go_at_call 17; go_must (exact Calls.quiet_of_same ((times_yes _ x y HFx.out HFy.out Hf1.out).mono fun e w' ⟨h1, h2⟩ => ⟨h1, h2.symm⟩))))
        go_wp2_with fail
        by_cases hf2 : Fits (acc + x * y)
        · refine (rplus_yes _ acc (x * y) HFA.out Hf1.out hf2).mono ?_
          rintro e w1 ⟨rfl, rfl⟩
          have Hf2 := Lib.hid hf2
          clear hf2
          go_wp2
          go_roundw
          case rel => exact ⟨k + 1, acc + x * y, q + _, by omega, rfl, by go_num, Hf2.out, by rw [HD.out, HS.out, if_pos ⟨Hf1.out, Hf2.out⟩], by rw [HW.out]; exact World.drewN_drewN _ _ _⟩
          case measure => simp [intOf]; omega
        · refine (rplus_no _ acc (x * y) HFA.out Hf1.out hf2).mono ?_
          rintro e w1 ⟨rfl, rfl⟩
          have Hf2 := Lib.hid hf2
          clear hf2
          go_wp2
          go_ret2
          refine ⟨?_, q + _, by rw [HW.out]; exact World.drewN_drewN _ _ _⟩
          rw [HD.out, HS.out, if_neg (fun h => Hf2.out h.2)]
          rfl
      · have Hf1 := Lib.hid hf1
        clear hf1
        go_wp2
        go_quiet ((go_at_call 17; go_must (exact Calls.quiet_of_same ((times_no _ x y HFx.out HFy.out Hf1.out).mono fun e w' ⟨h1, h2⟩ => ⟨h1, h2.symm⟩))))
        go_wp2
        go_ret2
        refine ⟨?_, q + _, by rw [HW.out]; exact World.drewN_drewN _ _ _⟩
        rw [HD.out, HS.out, if_neg (fun h => Hf1.out h.1)]
        rfl
    · obtain rfl : k = xs.length := by omega
      go_wp2
      go_ret2
      refine ⟨?_, q, HW.out⟩
      rw [HD.out, List.drop_length, dotP]
      · rfl
      · intro x xs' y ys' h; cases h
end Go.Proofs.Ytknmiiajeafjpaa

/- Lists of lists that the reference makes: read, at a colour. Its woven, its parted. -/
namespace Go.Proofs.Ytknmiiajeafjpaa
open Go.RowKit

section
variable {o o' : Col} {C : Nat → Prop} {w w' w2 : World} {c d : Nat}

theorem Vals.recol {v : Value} {vs : List Value} (h : Vals w o c v vs) (ho : ∀ k, k < w.heap.size → o k = c → o' k = d) : Vals w o' d v vs := by
  rcases h with h | ⟨hp, b, off, cap, rfl, hl, hb, hob, hcl⟩
  · exact .inl h
  · exact .inr ⟨hp, b, off, cap, rfl, hl, hb, ho b hb hob, hcl⟩

/-- v is a slice of slices that reads as xss; all lies in blocks of colour c -/
def LLc (w : World) (o : Col) (c : Nat) (v : Value) (xss : List (List Int)) : Prop :=
  ∃ vs, vs.length = xss.length ∧ Vals w o c v vs ∧ ∀ k, k < xss.length → Ints w o c (vs[k]?.getD undef) (xss[k]?.getD [])

theorem LLc.turn {v : Value} {xss : List (List Int)} (h : LLc w o c v xss) (T : Turn o o' C w w') (hc : ¬ C c) : LLc w' o' c v xss := by
  obtain ⟨vs, h1, h2, h3⟩ := h
  exact ⟨vs, h1, h2.turn T hc, fun k hk => (h3 k hk).turn T hc⟩
theorem LLc.recol {v : Value} {xss : List (List Int)} (h : LLc w o c v xss) (ho : ∀ k, k < w.heap.size → o k = c → o' k = d) : LLc w o' d v xss := by
  obtain ⟨vs, h1, h2, h3⟩ := h
  exact ⟨vs, h1, h2.recol ho, fun k hk => (h3 k hk).recol ho⟩
theorem LLc.ll {v : Value} {xss : List (List Int)} (h : LLc w o c v xss) : LL w v xss := by
  obtain ⟨vs, h1, h2, h3⟩ := h
  exact ⟨vs, h1, h2.has, fun k hk => (h3 k hk).has⟩
theorem LLc.nil (w : World) (o : Col) (c : Nat) : LLc w o c (.slice none 0 0) [] := ⟨[], rfl, Vals.nil _ _ _ _ _, fun k hk => by simp at hk⟩
theorem LLc.drewN {v : Value} {xss : List (List Int)} (h : LLc w o c v xss) (m : Nat) : LLc (w.drewN m) o c v xss := h.turn (Turn.of_quiet o ⟨m, rfl⟩) (fun h => h)

/-- a list of lists that grows: its own block has colour 1, its rows' blocks 2 -/
def Grows (w : World) (o : Col) (v : Value) (n : Nat) (vs : List Value) (xss : List (List Int)) : Prop :=
  Own w o 1 22 1 v n vs ∧ xss.length = n ∧ ∀ k, k < n → Ints w o 2 (vs[k]?.getD undef) (xss[k]?.getD [])

theorem Grows.nil (w : World) (o : Col) : Grows w o (.slice none 0 0) 0 [] [] := ⟨Own.nil _ _ _ _ _, rfl, fun k hk => by omega⟩
theorem Grows.turn {v : Value} {n : Nat} {vs : List Value} {xss : List (List Int)} (h : Grows w o v n vs xss) (T : Turn o o' C w w') (h1 : ¬ C 1) (h2 : ¬ C 2) : Grows w' o' v n vs xss :=
  ⟨h.1.turn T h1, h.2.1, fun k hk => (h.2.2 k hk).turn T h2⟩
theorem Grows.app {v v' u : Value} {n : Nat} {vs : List Value} {xss : List (List Int)} {l : List Int} {tmp : Obj} (h : Grows w o v n vs xss) (hu : Ints w o 2 u l) (k1 : w2.ownsRow 0 22 1 v' (n + 1) (vs ++ [u])) (k2 : (w.alloc tmp).grownBy w2 v.ownBlock)
    (k4 : v'.ownBlock = v.ownBlock ∨ v'.ownBlock = some (w.alloc tmp).heap.size) : Grows w2 (ext o w.heap.size 1) v' (n + 1) (vs ++ [u]) (xss ++ [l]) ∧ Turn o (ext o w.heap.size 1) (fun x => x = 1) w w2 := by
  obtain ⟨h1, h2, h3⟩ := h
  have hl := h1.len
  have T : Turn o (ext o w.heap.size 1) (fun x => x = 1) w w2 :=
    Turn.of_mods o 1 (((Mods.refl (fun b => v.ownBlock = some b) w).alloc tmp).grown k2 (fun b hb _ => hb)) (fun b _ hb => h1.2 b hb)
  refine ⟨⟨⟨k1, fun b hb => ?_⟩, by simp [h2], fun k hk => ?_⟩, T⟩
  · rcases k4 with k4 | k4
    · rw [k4] at hb
      exact (ext_old (h1.1.lt b hb).2).trans (h1.2 b hb)
    · rw [k4] at hb
      have := Option.some.inj hb
      simp at this
      exact ext_new (by omega)
  · by_cases e : k < n
    · rw [List.getElem?_append_left (by omega), List.getElem?_append_left (by omega)]
      exact (h3 k e).turn T (by decide)
    · obtain rfl : k = n := by omega
      rw [← hl, List.getElem?_concat_length, hl, ← h2, List.getElem?_concat_length]
      exact hu.turn T (by decide)
theorem Grows.llc {v : Value} {n : Nat} {vs : List Value} {xss : List (List Int)} (h : Grows w o v n vs xss) (ho : ∀ k, k < w.heap.size → o k = 1 ∨ o k = 2 → o' k = c) : LLc w o' c v xss := by
  obtain ⟨h1, h2, h3⟩ := h
  have hl := h1.len
  exact ⟨vs, by omega, h1.vals.recol (fun k hk e => ho k hk (.inl e)), fun k hk => (h3 k (by omega)).recol (fun k hk e => ho k hk (.inr e))⟩

/-- new blocks have a colour of their own, till they get the owner's -/
def fresh0 (N : Nat) : Col := fun k => if k < N then 0 else 2
end

theorem atP_snoc (ins : List (List Int)) (j i : Nat) (h : i < ins.length) : (atP ins j).take (i + 1) = (atP ins j).take i ++ [(ins[i]?.getD [])[j]?.getD 0] := by
  rw [List.take_succ_eq_append_getElem (by simpa [atP] using h)]
  simp [atP, h]

set_option maxRecDepth 100000 in
set_option maxHeartbeats 2000000 in
theorem rwoven_any (w : World) (n m : Nat) (ins : List (List Int)) (insv : Value) (hn : n ≤ 16) (hm : m ≤ 64) (hl : ins.length = n) (hr : ∀ l ∈ ins, l.length = m) (h : LL w insv ins) :
    Calls Try.prog 52 #[.int .i64 n, .int .i64 m, insv] w (Stated w (weaveP ins m)) := by
  obtain ⟨i0, hi, hz0, hz1, hz2⟩ := info_parts info_int
  obtain ⟨ia, ic, rfl⟩ := h.slice
  rw [hl] at h ⊢
  have HI := Lib.hid h
  have HL := Lib.hid hl
  have HR := Lib.hid hr
  have hni : (n : Int) ≤ 16 := by omega
  have hmi : (m : Int) ≤ 64 := by omega
  clear h hl hr
  go_enter Try.func52, Try.ntmps52
  go_wp2_with fail
  go_loopw [7, 8, 9] (fun v j _ wr => ∃ (k : Nat) (q : Nat), k ≤ m ∧ j = .int .i64 k ∧ wr.ownsRow w.heap.size 3 1 v (weaveP ins k).length (ivs (weaveP ins k)) ∧ (weaveP ins k).length = q ∧ Below w.heap.size w wr) (fun _ j _ _ => m - (intOf j).toNat)
  case atStart => exact ⟨0, 0, Nat.zero_le _, rfl, by simpa [weaveP] using World.ownsRow_nil w w.heap.size 3 1, by simp [weaveP], Below.refl _ _⟩
  case round =>
    obtain ⟨k, q, hk, rfl, ho, hq, hb⟩ := hrel
    obtain ⟨sv, cv, rfl⟩ := owns_slice ho
    by_cases hlt : k < m
    · have hlti : (k : Int) < m := by omega
      have HO := Lib.hid ho
      have HB := Lib.hid hb
      clear ho hb hq
      go_wp2_with fail
      go_loopw [7, 9] (fun v i wr => ∃ (p : Nat), p ≤ n ∧ i = .int .i64 p ∧ wr.ownsRow w.heap.size 3 1 v (weaveP ins k ++ (atP ins k).take p).length (ivs (weaveP ins k ++ (atP ins k).take p)) ∧ Below w.heap.size w wr) (fun _ i _ => n - (intOf i).toNat)
      case atStart => exact ⟨0, Nat.zero_le _, rfl, by simpa using HO.out, HB.out⟩
      case round =>
        clear HO HB
        obtain ⟨p, hp, rfl, ho, hb⟩ := hrel
        obtain ⟨sv, cv, rfl⟩ := owns_slice ho
        have hsz := hb.size
        by_cases hpn : p < n
        · have hpi : (p : Int) < n := by omega
          obtain ⟨bi, oi, ie, hci, hrow⟩ := HI.out.at (by have := HL.out; omega)
          subst ie
          obtain ⟨a0, c0, hr0, hh0⟩ := hrow p (by have := HL.out; omega)
          have hrl : (ins[p]?.getD []).length = m := HR.out _ (by have := HL.out; simp [show p < ins.length by omega])
          rw [hrl] at hr0 hh0
          obtain ⟨bd, ofd, rfl, -, hcd, -, -, hcelld⟩ := Vals.at hh0 (by rw [ivs_len]; omega)
          have hx1 := hcelld k (by rw [ivs_len]; omega)
          rw [ivs_get (by omega)] at hx1
          have hr1 := cell_later hb hr0
          have hx2 := cell_later hb hx1
          have hci1 : (n : Int) ≤ ic := by omega
          have hcd1 : (m : Int) ≤ c0 := by omega
          have HST := Lib.hid (atP_snoc ins k p (by have := HL.out; omega))
          have hql : (weaveP ins k ++ (atP ins k).take p).length ≤ 1024 := by
            rw [List.length_append, weaveP_len, HL.out, List.length_take]
            have : k * n ≤ 64 * 16 := Nat.mul_le_mul (by omega) hn
            have : k * n + n ≤ 64 * 16 := by
              have : (k + 1) * n ≤ 64 * 16 := Nat.mul_le_mul (by omega) hn
              rw [Nat.add_mul] at this; omega
            omega
          clear hrow hcelld hr0 hx1 hh0 hrl
          generalize (ins[p]?.getD [])[k]?.getD 0 = x at *
          obtain ⟨L, hL⟩ : ∃ L, weaveP ins k ++ (atP ins k).take p = L := ⟨_, rfl⟩
          have HLE := Lib.hid hL
          rw [hL] at ho hql ⊢
          clear hL
          go_wp2_with (at_builtin; refine stop_here ?_)
          refine go_on ?_
          refine wpList_app rfl _ _ 22 rfl w.heap.size 3 i0 _ 1 8 Try.underlying22 hi hz0 hz1 hz2 rfl (.slice sv L.length cv) L.length _ rfl (ho.alloc (.cells #[.int .i64 x] 3)) (some ⟨wr.heap.size, 0, none⟩) 1 1 [.int .i64 x] rfl rfl (fun h => by cases h) (news_alloc wr [.int .i64 x] 3) (by simp [Value.oneCell']) (by unfold maxLen; omega) (grow_ok (by omega)) (size_le_alloc hsz _) ?_
          intro v5 w5 k1 k20 _ _
          have k2 : (wr.alloc (.cells #[.int .i64 x] 3)).grownBy w5 (Value.slice sv L.length cv).ownBlock := ⟨k20.os, k20.tape, k20.output, k20.size, k20.block⟩
          have hb5 := hb.trans (below_app ho k2 hsz)
          have k3 : w5.ownsRow w.heap.size 3 1 v5 (weaveP ins k ++ (atP ins k).take (p + 1)).length (ivs (weaveP ins k ++ (atP ins k).take (p + 1))) := by
            rw [HST.out, ← List.append_assoc, HLE.out]
            simpa using k1
          clear k1 k20 k2 ho
          go_wp2
          go_roundw
          case rel => exact ⟨p + 1, by omega, by go_num, k3, hb5⟩
          case measure => simp [intOf]; omega
        · obtain rfl : p = n := by omega
          have hst : weaveP ins k ++ (atP ins k).take p = weaveP ins (k + 1) := by
            rw [List.take_of_length_le (by simp [atP, HL.out]), weaveP, weaveP, List.range_succ, List.flatMap_append]
            simp
          rw [hst] at ho ⊢
          clear hst
          go_wp2
          go_roundw
          case rel => exact ⟨k + 1, _, by omega, by go_num, ho, rfl, hb⟩
          case measure => simp [intOf]; omega
    · obtain rfl : k = m := by omega
      clear hq
      go_wp2
      go_ret
      exact ⟨_, rfl, ho, hb⟩
end Go.Proofs.Ytknmiiajeafjpaa

/- The reference's parted; three results, the first an actor. -/
namespace Go.Proofs.Ytknmiiajeafjpaa
open Go.RowKit

section
variable {o o' : Col} {C : Nat → Prop} {w w' w2 : World} {c d : Nat}

/-- one more onto an owned row -/
theorem Own.app {e n m : Nat} {v v' : Value} {xs news : List Value} {tmp : Obj} (h : Own w o c e 1 v n xs) (k1 : w2.ownsRow 0 e 1 v' (n + m) (xs ++ news)) (k2 : (w.alloc tmp).grownBy w2 v.ownBlock)
    (k4 : v'.ownBlock = v.ownBlock ∨ v'.ownBlock = some (w.alloc tmp).heap.size) : Own w2 (ext o w.heap.size c) c e 1 v' (n + m) (xs ++ news) ∧ Turn o (ext o w.heap.size c) (fun x => x = c) w w2 := by
  have T : Turn o (ext o w.heap.size c) (fun x => x = c) w w2 :=
    Turn.of_mods o c (((Mods.refl (fun b => v.ownBlock = some b) w).alloc tmp).grown k2 (fun b hb _ => hb)) (fun b _ hb => h.2 b hb)
  refine ⟨⟨k1, fun b hb => ?_⟩, T⟩
  rcases k4 with k4 | k4
  · rw [k4] at hb
    exact (ext_old (h.1.lt b hb).2).trans (h.2 b hb)
  · rw [k4] at hb
    have := Option.some.inj hb
    simp at this
    exact ext_new (by omega)

/-- what has colour 3 gets colour 2 -/
def up3 (o : Col) : Col := fun k => if o k = 3 then 2 else o k
theorem Grows.up3 {v : Value} {n : Nat} {vs : List Value} {xss : List (List Int)} (h : Grows w o v n vs xss) : Grows w (up3 o) v n vs xss :=
  ⟨⟨h.1.1, fun k hk => by have := h.1.2 k hk; simp [Proofs.Ytknmiiajeafjpaa.up3, this]⟩, h.2.1, fun k hk => (h.2.2 k hk).recol (fun j _ e => by simp [Proofs.Ytknmiiajeafjpaa.up3, e])⟩
theorem Kept.up3 {B : Nat} {w0 : World} (h : Kept B o w0 w) : Kept B (up3 o) w0 w := ⟨h.below, fun k hk => by simp [Proofs.Ytknmiiajeafjpaa.up3, h.old k hk], h.size⟩
end

theorem wrap_nat {p : Nat} (h : p ≤ 4611686018427387904) : wrap64 (p : Int) = p := IntWalk.wrap64_in _ (by omega)
theorem wrap_mulN {q n p : Nat} (e : q * n = p) (h : p ≤ 4611686018427387904) : wrap64 ((q : Int) * n) = p := by rw [← Int.natCast_mul, e]; exact wrap_nat h
theorem wrap_addN {q n p : Nat} (e : q + n = p) (h : p ≤ 4611686018427387904) : wrap64 ((q : Int) + n) = p := by rw [← Int.natCast_add, e]; exact wrap_nat h

theorem ints_lit {w : World} {o : Col} {c n : Nat} (l : List Int) (t : TypeId) (hn : n = w.heap.size) (ho : o n = c) (k : Nat) (hk : k = l.length) : Ints (w.alloc (.cells (ivs l).toArray t)) o c (.slice (some ⟨n, 0, none⟩) k k) l := by
  subst hn hk
  by_cases hp : 0 < l.length
  · refine .inr ⟨by simpa using hp, w.heap.size, 0, l.length, by simp, by simp, by simp, ho, fun k hk => ?_⟩
    rw [Nat.zero_add]
    have hk' : k < l.length := by simpa using hk
    exact cells_row _ _ (heap_alloc_new w _) k _ (by simp [ivs, hk'])
  · obtain rfl : l = [] := List.eq_nil_of_length_eq_zero (by omega)
    exact .inl ⟨rfl, _, _, rfl⟩
theorem llc_lit {w : World} {o : Col} {c n : Nat} {v : Value} {l : List Int} (t : TypeId) (hn : n = w.heap.size) (ho : o n = c) (hv : Ints w o c v l) : LLc (w.alloc (.cells #[v] t)) o c (.slice (some ⟨n, 0, none⟩) 1 1) [l] := by
  subst hn
  have T : Turn o o (fun _ => False) w (w.alloc (.cells #[v] t)) := ⟨(Mods.refl _ _).alloc _, fun _ _ => rfl⟩
  refine ⟨[v], rfl, .inr ⟨by simp, w.heap.size, 0, 1, rfl, Nat.le_refl _, by simp, ho, fun k hk => ?_⟩, fun k hk => ?_⟩
  · obtain rfl : k = 0 := by simp at hk; omega
    exact cells_row _ _ (heap_alloc_new w _) 0 v rfl
  · obtain rfl : k = 0 := by simp at hk; omega
    exact hv.turn T (fun h => h)

set_option maxRecDepth 100000 in
set_option maxHeartbeats 2000000 in
theorem rparted_any (w : World) (n m : Nat) (l : List Int) (lv : Value) (hn : n ≤ 16) (hm : m ≤ 64) (hl : l.length = n * m) (h : Has w lv (ivs l)) :
    Calls Try.prog 53 #[.int .i64 n, .int .i64 m, lv] w fun e w' => ∃ ov, e = .returned ov ∧ LLc w' (fresh0 w.heap.size) 2 ov (partP n m l) ∧ Below w.heap.size w w' := by
  obtain ⟨i0, hi, hz0, hz1, hz2⟩ := info_parts info_int
  obtain ⟨j0, ji, jz0, jz1, jz2⟩ := info_parts info_ints
  obtain ⟨la, lc, rfl⟩ := h.slice
  have h64 : n * m ≤ 16 * 64 := Nat.mul_le_mul hn hm
  rw [ivs_len] at h ⊢
  have HI := Lib.hid h
  have HL := Lib.hid hl
  have hni : (n : Int) ≤ 16 := by omega
  have hmi : (m : Int) ≤ 64 := by omega
  have hlb : (l.length : Int) ≤ 1024 := by omega
  clear h hl
  go_enter Try.func53, Try.ntmps53
  go_wp2_with fail
  go_loopw [7, 8, 9, 10] (fun v i _ _ wr => ∃ (k : Nat) (o : Col) (vs : List Value), k ≤ n ∧ i = .int .i64 k ∧ Grows wr o v k vs ((partP n m l).take k) ∧ Kept w.heap.size o w wr) (fun _ i _ _ _ => n - (intOf i).toNat)
  case atStart => exact ⟨0, fun _ => 0, [], Nat.zero_le _, rfl, by simpa using Grows.nil w (fun _ => 0), Kept.start w⟩
  case round =>
    obtain ⟨k, o, vs, hk, rfl, hG, hK⟩ := hrel
    obtain ⟨sv, cv, rfl⟩ := hG.1.slice
    by_cases hlt : k < n
    · have hlti : (k : Int) < n := by omega
      have HG := Lib.hid hG
      have HK := Lib.hid hK
      clear hG hK
      go_wp2_with fail
      go_loopw [9, 10] (fun p j wq => ∃ (q : Nat) (o : Col), q ≤ m ∧ j = .int .i64 q ∧ Own wq o 3 3 1 p q (ivs (((partP n m l)[k]?.getD []).take q)) ∧ Grows wq o (.slice sv k cv) k vs ((partP n m l).take k) ∧ Kept w.heap.size o w wq) (fun _ j _ => m - (intOf j).toNat)
      case atStart => exact ⟨0, o, Nat.zero_le _, rfl, by simpa using Own.nil wr o 3 3 1, HG.out, HK.out⟩
      case round =>
        clear HG HK o
        obtain ⟨q, o, hq, rfl, hp, hG, hK⟩ := hrel
        obtain ⟨sp, cp, rfl⟩ := hp.slice
        by_cases hqm : q < m
        · have hqi : (q : Int) < m := by omega
          have hidx : q * n + k < l.length := by
            rw [HL.out]
            have : q * n + n ≤ m * n := by rw [← Nat.succ_mul]; exact Nat.mul_le_mul_right n hqm
            rw [Nat.mul_comm n m]; omega
          obtain ⟨bd, ofd, rfl, -, hcd, -, -, hcelld⟩ := Vals.at HI.out (by rw [ivs_len]; omega)
          have hx1 := hcelld (q * n + k) (by rw [ivs_len]; omega)
          rw [ivs_get hidx] at hx1
          have hx2 := cell_later hK.below hx1
          have hcd1 : (l.length : Int) ≤ lc := by omega
          have hST : ((partP n m l)[k]?.getD []).take (q + 1) = ((partP n m l)[k]?.getD []).take q ++ [l[q * n + k]?.getD 0] := by
            rw [part_row n m l k hlt, List.take_succ_eq_append_getElem (by simpa using hqm)]
            simp
          have HST := Lib.hid hST
          have HG := Lib.hid hG
          have HK := Lib.hid hK
          have HP := Lib.hid hp
          have hsz := hK.size
          clear hcelld hx1 hST hG hK hp
          generalize l[q * n + k]?.getD 0 = x at *
          obtain ⟨p, hp⟩ : ∃ p, q * n = p := ⟨_, rfl⟩
          obtain ⟨r, hr⟩ : ∃ r, p + k = r := ⟨_, rfl⟩
          have hqn : (r : Int) < l.length := by omega
          have b1 : p ≤ 4611686018427387904 := by omega
          have b2 : r ≤ 4611686018427387904 := by omega
          have hw1 := wrap_mulN hp b1
          have hw2 := wrap_addN hr b2
          clear b1 b2
          rw [hp, hr] at hx2
          clear hp hidx hr
          go_wp2_with (at_builtin; refine stop_here ?_)
          refine go_on ?_
          clear hw1 hw2
          have hown := HP.out.1
          refine wpList_app rfl _ _ 22 rfl 0 3 i0 _ 1 8 Try.underlying22 hi hz0 hz1 hz2 rfl (.slice sp q cp) q _ rfl (hown.alloc (.cells #[.int .i64 x] 3)) (some ⟨wr.heap.size, 0, none⟩) 1 1 [.int .i64 x] rfl rfl (fun h => by cases h) (news_alloc wr [.int .i64 x] 3) (by simp [Value.oneCell']) (by unfold maxLen; omega) (grow_ok (by omega)) (Nat.zero_le _) ?_
          intro v5 w5 k1 k20 _ k4
          have k2 : (wr.alloc (.cells #[.int .i64 x] 3)).grownBy w5 (Value.slice sp q cp).ownBlock := ⟨k20.os, k20.tape, k20.output, k20.size, k20.block⟩
          obtain ⟨P5, T5⟩ := HP.out.app k1 k2 k4
          have HG5 := Lib.hid (HG.out.turn T5 (by decide) (by decide))
          have HK5 := Lib.hid (HK.out.turn T5 (by decide))
          have HP5 : Hid (Own w5 (ext o wr.heap.size 3) 3 3 1 v5 (q + 1) (ivs (((partP n m l)[k]?.getD []).take (q + 1)))) := Lib.hid (by rw [HST.out]; simpa using P5)
          clear k1 k20 k2 k4 hown P5 T5 HG HK HP HST
          go_wp2
          go_roundw
          case rel => exact ⟨q + 1, _, by omega, by go_num, HP5.out, HG5.out, HK5.out⟩
          case measure => simp [intOf]; omega
        · obtain rfl : q = m := by omega
          have hfull : ((partP n q l)[k]?.getD []).take q = (partP n q l)[k]?.getD [] := List.take_of_length_le (by rw [part_row_len n q l k hlt]; exact Nat.le_refl _)
          rw [hfull] at hp
          have hGu := hG.up3
          have hpu : Ints wr (up3 o) 2 (.slice sp q cp) ((partP n q l)[k]?.getD []) := hp.vals.recol (fun j _ e => by simp [up3, e])
          have HG := Lib.hid (hGu.turn (Turn.of_below _ 4 (below_alloc wr (.cells #[.slice sp q cp] 22))) (fun h => h) (fun h => h))
          have HPU := Lib.hid (hpu.turn (Turn.of_below _ 4 (below_alloc wr (.cells #[.slice sp q cp] 22))) (fun h => h))
          have HK := Lib.hid hK.up3
          have HGU := Lib.hid hGu
          have HPP := Lib.hid hpu
          have hsz := hK.size
          clear hfull hp hG hK hGu hpu
          go_wp2_with (at_builtin; refine stop_here ?_)
          refine go_on ?_
          have hown := HGU.out.1.1
          refine wpList_app rfl _ _ 29 rfl 0 22 j0 _ 1 24 Try.underlying29 ji jz0 jz1 jz2 rfl (.slice sv k cv) k _ rfl (hown.alloc (.cells #[.slice sp q cp] 22)) (some ⟨wr.heap.size, 0, none⟩) 1 1 [.slice sp q cp] rfl rfl (fun h => by cases h) (news_alloc wr [.slice sp q cp] 22) (by simp [Value.oneCell']) (by unfold maxLen; omega) (grow_ok (by omega)) (Nat.zero_le _) ?_
          intro v5 w5 k1 k20 _ k4
          have k2 : (wr.alloc (.cells #[.slice sp q cp] 22)).grownBy w5 (Value.slice sv k cv).ownBlock := ⟨k20.os, k20.tape, k20.output, k20.size, k20.block⟩
          obtain ⟨G5, T5⟩ := HGU.out.app HPP.out k1 k2 k4
          have hst : (partP n q l).take (k + 1) = (partP n q l).take k ++ [(partP n q l)[k]?.getD []] := by
            have hk' : k < (partP n q l).length := by rw [part_len]; exact hlt
            rw [List.take_succ_eq_append_getElem hk']
            simp [hk']
          have HG5 : Hid (Grows w5 (ext (up3 o) wr.heap.size 1) v5 (k + 1) (vs ++ [.slice sp q cp]) ((partP n q l).take (k + 1))) := Lib.hid (by rw [hst]; exact G5)
          have HK5 := Lib.hid (HK.out.turn T5 (by decide))
          clear k1 k20 k2 k4 hown G5 T5 HG HK HGU HPP HPU hst
          go_wp2
          go_roundw
          case rel => exact ⟨k + 1, _, _, by omega, by go_num, HG5.out, HK5.out⟩
          case measure => simp [intOf]; omega
    · obtain rfl : k = n := by omega
      have hfull : (partP k m l).take k = partP k m l := List.take_of_length_le (by rw [part_len]; exact Nat.le_refl _)
      rw [hfull] at hG
      have hL : LLc wr (fresh0 w.heap.size) 2 (.slice sv k cv) (partP k m l) := hG.llc (fun j _ e => by
        have : ¬ j < w.heap.size := fun hj => by have := hK.old j hj; omega
        simp [fresh0, this])
      have hb := hK.below
      clear hfull hG hK
      go_wp2
      go_ret
      exact ⟨_, rfl, hL, hb⟩
end Go.Proofs.Ytknmiiajeafjpaa

/- The reference's done: what a firing gives, by tag. -/
namespace Go.Proofs.Ytknmiiajeafjpaa
open Go.RowKit

theorem results_cell_tmp2 {fn : Func} {p u v : Tmp} {ty : TypeId} (h : fn.results = #[.cell p ty, .tmp u, .tmp v]) (tmps : Array Value) (P : Program) (w : World) :
    (results fn tmps).run P w =
      ((asAddr (tmps.getD p undef)).run P w).andThen fun a w₁ => ((loadVar ty a).run P w₁).andThen fun x w₂ => .ok (.tuple #[x, tmps.getD u undef, tmps.getD v undef]) w₂ := by
  simp only [results, h]
  simp [Sem.run_bind, Result.andThen]
theorem results_row_tmp2 {P : Program} {fn : Func} {p u v : Tmp} {ty : TypeId} (h : fn.results = #[.cell p ty, .tmp u, .tmp v]) (tmps : Array Value) (w : World) (g : Nat) (t : TypeId) (cs : Array Value) (fr : Nat × Nat) (d : TypeDesc)
    (hp : tmps.getD p undef = .pointer (some ⟨g, 0, none⟩)) (hg : w.heap[g]? = some (.cells cs t fr))
    (hu : P.underlying ty = some d) (hd : (match d with | .struct _ | .array _ _ => true | _ => false) = true) (hi : (P.info? ty).map (·.size) = some cs.size) :
    (results fn tmps).run P w = .ok (.tuple #[.agg cs, tmps.getD u undef, tmps.getD v undef]) w := by
  rw [results_cell_tmp2 h, hp]
  simp [asAddr, run_loadVar_row w g t ty cs fr d hg hu hd hi, Result.andThen]

/-- what the reference's 'done' answers -/
def DoneRef (w : World) (o : Col) (c : Nat) (t : Int) (vp vi vo vk : Value) (n : Int) (r : Option (List (List Int) × List Int)) (e : Ending) (w' : World) : Prop :=
  match r with
  | some (outs, keep') => ∃ ov vk', e = .returned (.tuple #[.agg #[.int .u8 t, vp, vi, vo, vk', .int .i64 n], ov, .int .i64 0]) ∧ Ints w' (ext o w.heap.size c) c vk' keep' ∧ LLc w' (ext o w.heap.size c) c ov outs ∧ Below w.heap.size w w'
  | none => e = .returned (.tuple #[.agg #[.int .u8 t, vp, vi, vo, vk, .int .i64 n], .slice none 0 0, .int .i64 70]) ∧ Below w.heap.size w w'

/-- the result's block written: what was read stays -/
theorem done_fin {w W W' : World} {o : Col} {c : Nat} {t n : Int} {vp vi vo vk ov : Value} {keep : List Int} {outs : List (List Int)} (hk : Ints w o c vk keep) (hb : Below w.heap.size w W) (hM : Mods (fun k => k = w.heap.size + 1) W W')
    (ho : LLc W (fun k => if k < w.heap.size + 2 then 0 else 2) 2 ov outs) :
    DoneRef w o c t vp vi vo vk n (some (outs, keep)) (.returned (.tuple #[.agg #[.int .u8 t, vp, vi, vo, vk, .int .i64 n], ov, .int .i64 0])) W' := by
  have hB : Below w.heap.size w W' := hb.trans (hM.below hb.size (fun k hk e => by omega))
  have T : Turn (fun k => if k < w.heap.size + 2 then 0 else 2) (fun k => if k < w.heap.size + 2 then 0 else 2) (fun x => x = 0) W W' := ⟨hM.mono (fun k _ e => by simp [e]), fun _ _ => rfl⟩
  refine ⟨ov, vk, rfl, hk.turn (Turn.of_below o c hB) (fun h => h), (ho.turn T (by decide)).recol (fun k hk e => ?_), hB⟩
  have : ¬ k < w.heap.size := fun h => by
    have : k < w.heap.size + 2 := by omega
    simp [this] at e
  exact ext_new (by omega)


set_option maxRecDepth 100000 in
set_option maxHeartbeats 1000000 in
theorem rdone_11 (w : World) (o : Col) (c : Nat) (a1 a2 a3 a4 : Option Addr) (n1 n2 n3 n4 c1 c2 c3 c4 : Nat) (insv : Value) (n : Int) (keep : List Int) (hk : Ints w o c (.slice a4 n4 c4) keep) :
    Calls Try.prog 48 #[.agg #[.int .u8 11, .slice a1 n1 c1, .slice a2 n2 c2, .slice a3 n3 c3, .slice a4 n4 c4, .int .i64 n], insv] w (DoneRef w o c 11 (.slice a1 n1 c1) (.slice a2 n2 c2) (.slice a3 n3 c3) (.slice a4 n4 c4) n (some ([], keep))) := by
  have HK := Lib.hid hk
  clear hk
  go_enter Try.func48, Try.ntmps48
  go_wp2
  have hK := heap_alloc_new (w.alloc (.cells #[.int .u8 11, .slice a1 n1 c1, .slice a2 n2 c2, .slice a3 n3 c3, .slice a4 n4 c4, .int .i64 n] 48)) (.cells #[.int .u8 11, .slice a1 n1 c1, .slice a2 n2 c2, .slice a3 n3 c3, .slice a4 n4 c4, .int .i64 n] 48)
  rw [World.size_alloc] at hK
  refine bodyPost_ret_by (results_row_tmp2 rfl _ _ _ _ _ _ _ rfl hK Try.underlying48 rfl (by kernel_rfl)) rfl ?_
  exact done_fin HK.out (Below.refl _ _) ((Mods.refl _ _).alloc _ |>.alloc _) (LLc.nil _ _ _)


/-- six cells of a block -/
abbrev Six (w : World) (g : Nat) (a b c d e f : Value) : Prop := w.cell? ⟨g, 0, none⟩ = some a ∧ w.cell? ⟨g, 1, none⟩ = some b ∧ w.cell? ⟨g, 2, none⟩ = some c ∧ w.cell? ⟨g, 3, none⟩ = some d ∧ w.cell? ⟨g, 4, none⟩ = some e ∧ w.cell? ⟨g, 5, none⟩ = some f
theorem Six.ext {w w' : World} {g : Nat} {a b c d e f : Value} (h : Six w g a b c d e f) (hx : Ext w w') : Six w' g a b c d e f :=
  ⟨hx.cell h.1, hx.cell h.2.1, hx.cell h.2.2.1, hx.cell h.2.2.2.1, hx.cell h.2.2.2.2.1, hx.cell h.2.2.2.2.2⟩
theorem six_new (w : World) (a b c d e f : Value) (t : TypeId) : Six (w.alloc (.cells #[a, b, c, d, e, f] t)) w.heap.size a b c d e f := by
  have h := heap_alloc_new w (.cells #[a, b, c, d, e, f] t)
  exact ⟨cells_row _ _ h 0 a rfl, cells_row _ _ h 1 b rfl, cells_row _ _ h 2 c rfl, cells_row _ _ h 3 d rfl, cells_row _ _ h 4 e rfl, cells_row _ _ h 5 f rfl⟩
theorem Six.alloc {w : World} {g : Nat} {a b c d e f : Value} (h : Six w g a b c d e f) (x : Obj) : Six (w.alloc x) g a b c d e f :=
  ⟨ca h.1, ca h.2.1, ca h.2.2.1, ca h.2.2.2.1, ca h.2.2.2.2.1, ca h.2.2.2.2.2⟩

set_option maxRecDepth 100000 in
set_option maxHeartbeats 1000000 in
theorem rdone_3 (w : World) (o : Col) (c : Nat) (a1 a2 a3 a4 : Option Addr) (n1 n2 n3 n4 c1 c2 c3 c4 : Nat) (insv : Value) (n : Int) (l : List Int) (keep : List Int) (hk : Ints w o c (.slice a4 n4 c4) keep) (hins : LL w insv [l]) (hl : 1 ≤ l.length) :
    Calls Try.prog 48 #[.agg #[.int .u8 3, .slice a1 n1 c1, .slice a2 n2 c2, .slice a3 n3 c3, .slice a4 n4 c4, .int .i64 n], insv] w (DoneRef w o c 3 (.slice a1 n1 c1) (.slice a2 n2 c2) (.slice a3 n3 c3) (.slice a4 n4 c4) n (some ([[hd l]], keep))) := by
  have HK := Lib.hid hk
  obtain ⟨ia, ic, rfl⟩ := hins.slice
  obtain ⟨bi, oi, rfl, hci, hrow⟩ := hins.at (by simp)
  obtain ⟨a0, c0, hr0, hh0⟩ := hrow 0 (by simp)
  simp only [List.length_cons, List.length_nil, List.getElem?_cons_zero, Option.getD_some, Nat.add_zero, Nat.zero_add] at hr0 hh0 hci ⊢
  obtain ⟨b0, o0, rfl, -, hc0, -, -, hx0⟩ := Vals.at hh0 (by rw [ivs_len]; omega)
  have hx1 := hx0 0 (by rw [ivs_len]; omega)
  rw [ivs_get (by omega), Nat.add_zero] at hx1
  have hx1 : w.cell? ⟨b0, o0, none⟩ = some (.int .i64 (hd l)) := hx1
  have hl1 : (1 : Int) ≤ l.length := by omega
  have hl0 : 0 < l.length := by omega
  obtain ⟨x, hx⟩ : ∃ x, hd l = x := ⟨_, rfl⟩
  rw [hx] at hx1 ⊢
  have hci1 : (1 : Int) ≤ ic := by omega
  have hc01 : (l.length : Int) ≤ c0 := by omega
  have S0 := (six_new w (.int .u8 3) (.slice a1 n1 c1) (.slice a2 n2 c2) (.slice a3 n3 c3) (.slice a4 n4 c4) (.int .i64 n) 48).alloc (.cells #[.int .u8 0, .slice none 0 0, .slice none 0 0, .slice none 0 0, .slice none 0 0, .int .i64 0] 48)
  have r0 := ca (o := .cells #[.int .u8 0, .slice none 0 0, .slice none 0 0, .slice none 0 0, .slice none 0 0, .int .i64 0] 48) (ca (o := .cells #[.int .u8 3, .slice a1 n1 c1, .slice a2 n2 c2, .slice a3 n3 c3, .slice a4 n4 c4, .int .i64 n] 48) hr0)
  have r1 := ca (o := .cells #[.int .u8 0, .slice none 0 0, .slice none 0 0, .slice none 0 0, .slice none 0 0, .int .i64 0] 48) (ca (o := .cells #[.int .u8 3, .slice a1 n1 c1, .slice a2 n2 c2, .slice a3 n3 c3, .slice a4 n4 c4, .int .i64 n] 48) hx1)
  have H0 := Lib.hid hr0
  have H1 := Lib.hid hx1
  have HS := Lib.hid (show Six _ _ _ _ _ _ _ _ ∧ _ ∧ _ from ⟨S0, r0, r1⟩)
  clear hk hins hrow hh0 hx0 hr0 hx1 S0 r0 r1 hx
  have hK := heap_alloc_new (w.alloc (.cells #[.int .u8 3, .slice a1 n1 c1, .slice a2 n2 c2, .slice a3 n3 c3, .slice a4 n4 c4, .int .i64 n] 48)) (.cells #[.int .u8 3, .slice a1 n1 c1, .slice a2 n2 c2, .slice a3 n3 c3, .slice a4 n4 c4, .int .i64 n] 48)
  rw [World.size_alloc] at hK
  go_enter Try.func48, Try.ntmps48
  go_wp2_with fail
  refine wp_region_rest (fun w' => Six w' w.heap.size (.int .u8 3) (.slice a1 n1 c1) (.slice a2 n2 c2) (.slice a3 n3 c3) (.slice a4 n4 c4) (.int .i64 n) ∧ w'.cell? ⟨bi, oi, none⟩ = some (.slice (some ⟨b0, o0, none⟩) l.length c0) ∧ w'.cell? ⟨b0, o0, none⟩ = some (.int .i64 x)) [0, 1, 2, 3, 4, 5] [8] 5 (by kernel_rfl) (by kernel_rfl) rfl HS.out ?_
  intro Q' hQ'
  simp only [pickOps, List.flatMap_cons, List.flatMap_nil, List.drop_succ_cons, List.drop_zero, List.take_succ_cons, List.take_zero, List.cons_append, List.nil_append, List.append_nil]
  repeat (first
    | (refine wpReads_skip (by rfl) ?_; (try simp only [Act.put, List.setIfInBounds_toArray, List.set_cons_zero, List.set_cons_succ]))
    | (refine wpReads_cons ?_ (by rfl) (by rfl) ?_ ?_; rotate_left; (intro wz hz; (try dsimp only at hz); go_simp; try with_reducible rfl); (try simp only [Act.put, List.setIfInBounds_toArray, List.set_cons_zero, List.set_cons_succ]))
    | (refine wpReads_any ?_ (by rfl) ?_ ?_; rotate_left; (intro wz; go_simp; try with_reducible rfl); (try simp only [Act.put, List.setIfInBounds_toArray, List.set_cons_zero, List.set_cons_succ])))
  refine wpReads_nil ?_
  refine wpAnyT_two (i := 6) (k := 8) (by kernel_rfl) ?_ ?_
  · simp only [pickOps, List.flatMap_cons, List.flatMap_nil, List.drop_succ_cons, List.drop_zero, List.take_succ_cons, List.take_zero, List.cons_append, List.nil_append, List.append_nil]
    go_wp2
    refine ⟨fun _ hS => ⟨hS.1.alloc _, ca hS.2.1, ca hS.2.2⟩, ?_⟩
    refine wpAnyT_two (i := 7) (k := 8) (by kernel_rfl) ?_ ?_
    · simp only [pickOps, List.flatMap_cons, List.flatMap_nil, List.drop_succ_cons, List.drop_zero, List.take_succ_cons, List.take_zero, List.cons_append, List.nil_append, List.append_nil]
      go_wp2
      refine ⟨fun _ hS => ⟨hS.1.alloc _, ca hS.2.1, ca hS.2.2⟩, ?_⟩
      refine wpAnyT_one (i := 8) (by kernel_rfl) ?_
      simp only [pickOps, List.flatMap_cons, List.flatMap_nil, List.drop_succ_cons, List.drop_zero, List.take_succ_cons, List.take_zero, List.cons_append, List.nil_append, List.append_nil]
      go_wp2
      refine ⟨fun _ hS => ⟨((((six_new w _ _ _ _ _ _ _).alloc _).alloc _).alloc _), ca (ca (ca (ca H0.out))), ca (ca (ca (ca H1.out)))⟩, ?_⟩
      refine wpAnyT_list (ks := [9, 10]) (fun _ _ hx h => ⟨h.1.ext hx, hx.cell h.2.1, hx.cell h.2.2⟩) (by kernel_rfl) ?_
      simp only [pickOps, List.flatMap_cons, List.flatMap_nil, List.drop_succ_cons, List.drop_zero, List.take_succ_cons, List.take_zero, List.cons_append, List.nil_append, List.append_nil]
      go_wp2
      refine bodyPost_ret_by (results_row_tmp2 rfl _ _ _ _ _ _ _ rfl (block_alloc (block_alloc hK _) _) Try.underlying48 rfl (by kernel_rfl)) rfl ?_
      exact done_fin HK.out (((((Below.refl _ _).alloc (by simp) _).alloc (by simp) _).alloc (by simp <;> omega) _).alloc (by simp <;> omega) _ |> below_n <| 1) (Mods.refl _ _) ((llc_lit 22 (by simp) (by simp) (ints_lit [x] 3 (by simp) (by simp) 1 rfl)).drewN 1)
    · simp only [pickOps, List.flatMap_cons, List.flatMap_nil, List.drop_succ_cons, List.drop_zero, List.take_succ_cons, List.take_zero, List.cons_append, List.nil_append, List.append_nil]
      go_wp2
      refine ⟨fun _ hS => ⟨(((six_new w _ _ _ _ _ _ _).alloc _).alloc _), ca (ca (ca H0.out)), ca (ca (ca H1.out))⟩, ?_⟩
      refine wpAnyT_one (i := 7) (by kernel_rfl) ?_
      simp only [pickOps, List.flatMap_cons, List.flatMap_nil, List.drop_succ_cons, List.drop_zero, List.take_succ_cons, List.take_zero, List.cons_append, List.nil_append, List.append_nil]
      go_wp2
      refine ⟨fun _ hS => ⟨hS.1.alloc _, ca hS.2.1, ca hS.2.2⟩, ?_⟩
      refine wpAnyT_list (ks := [9, 10]) (fun _ _ hx h => ⟨h.1.ext hx, hx.cell h.2.1, hx.cell h.2.2⟩) (by kernel_rfl) ?_
      simp only [pickOps, List.flatMap_cons, List.flatMap_nil, List.drop_succ_cons, List.drop_zero, List.take_succ_cons, List.take_zero, List.cons_append, List.nil_append, List.append_nil]
      go_wp2
      refine bodyPost_ret_by (results_row_tmp2 rfl _ _ _ _ _ _ _ rfl (block_alloc (block_alloc hK _) _) Try.underlying48 rfl (by kernel_rfl)) rfl ?_
      exact done_fin HK.out (((((Below.refl _ _).alloc (by simp) _).alloc (by simp) _).alloc (by simp <;> omega) _).alloc (by simp <;> omega) _ |> below_n <| 1) (Mods.refl _ _) ((llc_lit 22 (by simp) (by simp) (ints_lit [x] 3 (by simp) (by simp) 1 rfl)).drewN 1)
  · simp only [pickOps, List.flatMap_cons, List.flatMap_nil, List.drop_succ_cons, List.drop_zero, List.take_succ_cons, List.take_zero, List.cons_append, List.nil_append, List.append_nil]
    go_wp2
    refine ⟨fun _ hS => ⟨((six_new w _ _ _ _ _ _ _).alloc _), ca (ca H0.out), ca (ca H1.out)⟩, ?_⟩
    refine wpAnyT_one (i := 6) (by kernel_rfl) ?_
    simp only [pickOps, List.flatMap_cons, List.flatMap_nil, List.drop_succ_cons, List.drop_zero, List.take_succ_cons, List.take_zero, List.cons_append, List.nil_append, List.append_nil]
    go_wp2
    refine ⟨fun _ hS => ⟨hS.1.alloc _, ca hS.2.1, ca hS.2.2⟩, ?_⟩
    refine wpAnyT_one (i := 7) (by kernel_rfl) ?_
    simp only [pickOps, List.flatMap_cons, List.flatMap_nil, List.drop_succ_cons, List.drop_zero, List.take_succ_cons, List.take_zero, List.cons_append, List.nil_append, List.append_nil]
    go_wp2
    refine ⟨fun _ hS => ⟨hS.1.alloc _, ca hS.2.1, ca hS.2.2⟩, ?_⟩
    refine wpAnyT_list (ks := [9, 10]) (fun _ _ hx h => ⟨h.1.ext hx, hx.cell h.2.1, hx.cell h.2.2⟩) (by kernel_rfl) ?_
    simp only [pickOps, List.flatMap_cons, List.flatMap_nil, List.drop_succ_cons, List.drop_zero, List.take_succ_cons, List.take_zero, List.cons_append, List.nil_append, List.append_nil]
    go_wp2
    refine bodyPost_ret_by (results_row_tmp2 rfl _ _ _ _ _ _ _ rfl (block_alloc (block_alloc hK _) _) Try.underlying48 rfl (by kernel_rfl)) rfl ?_
    exact done_fin HK.out (((((Below.refl _ _).alloc (by simp) _).alloc (by simp) _).alloc (by simp <;> omega) _).alloc (by simp <;> omega) _ |> below_n <| 1) (Mods.refl _ _) ((llc_lit 22 (by simp) (by simp) (ints_lit [x] 3 (by simp) (by simp) 1 rfl)).drewN 1)

theorem Six.below {w w' : World} {g : Nat} {a b c d e f : Value} (h : Six w g a b c d e f) (hb : Below w.heap.size w w') : Six w' g a b c d e f :=
  ⟨cell_later hb h.1, cell_later hb h.2.1, cell_later hb h.2.2.1, cell_later hb h.2.2.2.1, cell_later hb h.2.2.2.2.1, cell_later hb h.2.2.2.2.2⟩
theorem six_cell {w : World} {B : Nat} {a b c d e f : Value} {p : Addr} {v : Value} (hp : w.cell? p = some v) (h : p.block ≠ B) : (six w B a b c d e f).cell? p = some v :=
  ((six_mods (F := fun k => k = B) (Mods.refl _ w) rfl : Mods (fun k => k = B) w (six w B a b c d e f)).cell (World.block_lt_of_cell? _ _ hp) h).trans hp
theorem Six.six {w : World} {g B : Nat} {a b c d e f a' b' c' d' e' f' : Value} (h : Six w g a b c d e f) (hg : g ≠ B) : Six (six w B a' b' c' d' e' f') g a b c d e f :=
  ⟨six_cell h.1 hg, six_cell h.2.1 hg, six_cell h.2.2.1 hg, six_cell h.2.2.2.1 hg, six_cell h.2.2.2.2.1 hg, six_cell h.2.2.2.2.2 hg⟩
end Go.Proofs.Ytknmiiajeafjpaa

/- The reference's done: weave, unweave. -/
namespace Go.Proofs.Ytknmiiajeafjpaa
open Go.RowKit

theorem below_drew {B : Nat} {w w' : World} (h : Below B w w') : Below B w w'.drew := ⟨h.os, h.tape, h.output, h.size, h.block⟩
theorem llc_ext {w : World} {o o' : Col} {c d : Nat} {v : Value} {xss : List (List Int)} (h : LLc w o c v xss) (ho : ∀ k, k < w.heap.size → o k = c → o' k = d) : LLc w o' d v xss := h.recol ho
theorem ints_of_owns {w : World} {N : Nat} {v : Value} {l : List Int} {o : Col} {c : Nat} (h : w.ownsRow N 3 1 v l.length (ivs l)) (ho : ∀ k, N ≤ k → o k = c) : Ints w o c v l :=
  (Own.made (fun _ => 0) 2 h).vals.recol (fun k _ e => ho k (by
    rcases Nat.lt_or_ge k N with h | h
    · rw [ext_old h] at e; cases e
    · exact h))

abbrev colN (N : Nat) : Col := fun k => if k < N + 2 then 0 else 2
theorem colN_new {N k : Nat} (h : N + 2 ≤ k) : colN N k = 2 := by simp [colN, show ¬ k < N + 2 by omega]
theorem ints_colN {w : World} {N M : Nat} {v : Value} {l : List Int} (h : w.ownsRow M 3 1 v l.length (ivs l)) (hM : N + 2 ≤ M) : Ints w (colN N) 2 v l := ints_of_owns h (fun k hk => colN_new (by omega))
theorem six_turn (N : Nat) (w : World) (a b c d e f : Value) : Turn (colN N) (colN N) (fun x => x = 0) w (six w (N + 1) a b c d e f) := ⟨six_mods (Mods.refl _ _) (by simp), fun _ _ => rfl⟩
theorem six_below {N : Nat} {w0 w : World} (h : Below N w0 w) (hs : N ≤ w.heap.size) (a b c d e f : Value) : Below N w0 (six w (N + 1) a b c d e f) :=
  h.trans ((six_mods (F := fun k => k = N + 1) (Mods.refl _ w) rfl : Mods (fun k => k = N + 1) w (six w (N + 1) a b c d e f)).below hs (fun k hk e => by omega))

theorem keep3 {w : World} {g B : Nat} {a b c d e f a' b' c' d' e' f' v u : Value} {p q : Addr} (h : Six w g a b c d e f ∧ w.cell? p = some v ∧ w.cell? q = some u) (hg : g ≠ B) (hp : p.block ≠ B) (hq : q.block ≠ B) :
    Six ((((((w.setCell ⟨B, 0, none⟩ a').setCell ⟨B, 1, none⟩ b').setCell ⟨B, 2, none⟩ c').setCell ⟨B, 3, none⟩ d').setCell ⟨B, 4, none⟩ e').setCell ⟨B, 5, none⟩ f') g a b c d e f ∧
      ((((((w.setCell ⟨B, 0, none⟩ a').setCell ⟨B, 1, none⟩ b').setCell ⟨B, 2, none⟩ c').setCell ⟨B, 3, none⟩ d').setCell ⟨B, 4, none⟩ e').setCell ⟨B, 5, none⟩ f').cell? p = some v ∧
      ((((((w.setCell ⟨B, 0, none⟩ a').setCell ⟨B, 1, none⟩ b').setCell ⟨B, 2, none⟩ c').setCell ⟨B, 3, none⟩ d').setCell ⟨B, 4, none⟩ e').setCell ⟨B, 5, none⟩ f').cell? q = some u :=
  ⟨h.1.six hg, six_cell h.2.1 hp, six_cell h.2.2 hq⟩
theorem mods6 {w0 w : World} {B : Nat} {a' b' c' d' e' f' : Value} {F : Nat → Prop} (h : Mods F w0 w) (hB : F B) : Mods F w0 ((((((w.setCell ⟨B, 0, none⟩ a').setCell ⟨B, 1, none⟩ b').setCell ⟨B, 2, none⟩ c').setCell ⟨B, 3, none⟩ d').setCell ⟨B, 4, none⟩ e').setCell ⟨B, 5, none⟩ f') := six_mods h hB



set_option maxRecDepth 100000 in
set_option maxHeartbeats 2000000 in
theorem rdone_4 (w : World) (o : Col) (c : Nat) (a1 a2 a3 a4 : Option Addr) (n1 n2 n3 n4 c1 c2 c3 c4 : Nat) (insv : Value) (n : Int) (u m : Nat) (keep : List Int) (xss : List (List Int)) (hk : Ints w o c (.slice a4 n4 c4) keep)
    (hp : Has w (.slice a1 n1 c1) (ivs [(u : Int), (m : Int)])) (hins : LL w insv xss) (hu : u ≤ 16) (hm : m ≤ 64) (hl : xss.length = u) (hr : ∀ l ∈ xss, l.length = m) :
    Calls Try.prog 48 #[.agg #[.int .u8 4, .slice a1 n1 c1, .slice a2 n2 c2, .slice a3 n3 c3, .slice a4 n4 c4, .int .i64 n], insv] w (DoneRef w o c 4 (.slice a1 n1 c1) (.slice a2 n2 c2) (.slice a3 n3 c3) (.slice a4 n4 c4) n (some ([weaveP xss m], keep))) := by
  obtain ⟨ia, ic, rfl⟩ := hins.slice
  have HI := Lib.hid hins
  have HL := Lib.hid hl
  have HR := Lib.hid hr
  clear hins hl hr
  have HK := Lib.hid hk
  obtain ⟨pb, po, rfl, hn1, hc1, -, -, hpc⟩ := Vals.at hp (by simp)
  have hp0 := hpc 0 (by simp)
  have hp1 := hpc 1 (by simp)
  simp at hp0 hp1 hn1
  subst hn1
  have hpb : pb < w.heap.size := World.block_lt_of_cell? _ _ hp0
  have hc1i : (2 : Int) ≤ c1 := by omega
  have hui : (u : Int) ≤ 16 := by omega
  have hmi : (m : Int) ≤ 64 := by omega
  have S0 := (six_new w (.int .u8 4) (.slice (some ⟨pb, po, none⟩) 2 c1) (.slice a2 n2 c2) (.slice a3 n3 c3) (.slice a4 n4 c4) (.int .i64 n) 48).alloc (.cells #[.int .u8 0, .slice none 0 0, .slice none 0 0, .slice none 0 0, .slice none 0 0, .int .i64 0] 48)
  have hbW : ∀ x : Obj, Below w.heap.size w ((w.alloc (.cells #[.int .u8 4, .slice (some ⟨pb, po, none⟩) 2 c1, .slice a2 n2 c2, .slice a3 n3 c3, .slice a4 n4 c4, .int .i64 n] 48)).alloc x) := fun x => (below_alloc w _).alloc (by simp) _
  have HBW := Lib.hid hbW
  have H0 := Lib.hid hp0
  have H1 := Lib.hid hp1
  have hB0 := heap_alloc_new (w.alloc (.cells #[.int .u8 4, .slice (some ⟨pb, po, none⟩) 2 c1, .slice a2 n2 c2, .slice a3 n3 c3, .slice a4 n4 c4, .int .i64 n] 48)) (.cells #[.int .u8 0, .slice none 0 0, .slice none 0 0, .slice none 0 0, .slice none 0 0, .int .i64 0] 48)
  rw [World.size_alloc] at hB0
  have hK0 := heap_alloc_new (w.alloc (.cells #[.int .u8 4, .slice (some ⟨pb, po, none⟩) 2 c1, .slice a2 n2 c2, .slice a3 n3 c3, .slice a4 n4 c4, .int .i64 n] 48)) (.cells #[.int .u8 4, .slice (some ⟨pb, po, none⟩) 2 c1, .slice a2 n2 c2, .slice a3 n3 c3, .slice a4 n4 c4, .int .i64 n] 48)
  rw [World.size_alloc] at hK0
  have HB0 := Lib.hid hB0
  have HK0 := Lib.hid hK0
  clear hk hpc hp0 hp1 hB0 hK0 hbW hp
  have HS := Lib.hid S0
  clear S0
  go_enter Try.func48, Try.ntmps48
  go_wp2_with fail
  refine wp_region_rest (fun w' => Six w' w.heap.size (.int .u8 4) (.slice (some ⟨pb, po, none⟩) 2 c1) (.slice a2 n2 c2) (.slice a3 n3 c3) (.slice a4 n4 c4) (.int .i64 n) ∧ w'.cell? ⟨pb, po, none⟩ = some (.int .i64 u) ∧ w'.cell? ⟨pb, po + 1, none⟩ = some (.int .i64 m)) [0, 1, 2, 3, 4, 5, 6, 7, 8, 9] [10, 12] 5 (by kernel_rfl) (by kernel_rfl) rfl ⟨HS.out, cell_later (below_drew (HBW.out _)) H0.out, cell_later (below_drew (HBW.out _)) H1.out⟩ ?_
  intro Q' hQ'
  simp only [pickOps, List.flatMap_cons, List.flatMap_nil, List.drop_succ_cons, List.drop_zero, List.take_succ_cons, List.take_zero, List.cons_append, List.nil_append, List.append_nil]
  repeat (first
    | (refine wpReads_skip (by rfl) ?_; (try simp only [Act.put, List.setIfInBounds_toArray, List.set_cons_zero, List.set_cons_succ]))
    | (refine wpReads_cons ?_ (by rfl) (by rfl) ?_ ?_; rotate_left; (intro wz hz; (try dsimp only at hz); go_simp; try with_reducible rfl); (try simp only [Act.put, List.setIfInBounds_toArray, List.set_cons_zero, List.set_cons_succ]))
    | (refine wpReads_any ?_ (by rfl) ?_ ?_; rotate_left; (intro wz; go_simp; try with_reducible rfl); (try simp only [Act.put, List.setIfInBounds_toArray, List.set_cons_zero, List.set_cons_succ])))
  refine wpReads_nil ?_
  refine wpAnyT_one (i := 10) (by kernel_rfl) ?_
  simp only [pickOps, List.flatMap_cons, List.flatMap_nil, List.drop_succ_cons, List.drop_zero, List.take_succ_cons, List.take_zero, List.cons_append, List.nil_append, List.append_nil]
  go_wp2_with fail
  refine (rwoven_any _ u m xss _ hu hm HL.out HR.out (HI.out.below (below_drew (HBW.out _)))).mono ?_
  rintro e w3 ⟨v, rfl, ho, hb⟩
  obtain ⟨sv, cv, rfl⟩ := owns_slice ho
  have hb3 : Below w.heap.size w w3 := (HBW.out _).trans ((below_ld (n := 1) hb).mono (HBW.out _).size)
  have hBB := block_mods HB0.out (Mods.of_below (below_ld (n := 1) hb) (fun _ => False)) (fun h => h)
  have q0 := cells_row _ _ hBB 0 _ rfl
  have q1 := cells_row _ _ hBB 1 _ rfl
  have q2 := cells_row _ _ hBB 2 _ rfl
  have q3 := cells_row _ _ hBB 3 _ rfl
  have q4 := cells_row _ _ hBB 4 _ rfl
  have q5 := cells_row _ _ hBB 5 _ rfl
  have r0 := frozen_of_block hBB 0
  have r1 := frozen_of_block hBB 1
  have r2 := frozen_of_block hBB 2
  have r3 := frozen_of_block hBB 3
  have r4 := frozen_of_block hBB 4
  have r5 := frozen_of_block hBB 5
  have hs3 : w.heap.size + 2 ≤ w3.heap.size := by have := hb.size; simpa using this
  have HB3 := Lib.hid hb
  have HBW3 := Lib.hid hb3
  have HBB := Lib.hid hBB
  have HO := Lib.hid ho
  clear hb hb3 hBB ho
  go_wp2
  refine ⟨fun _ hS => ⟨hS.1.below HB3.out, cell_later HBW3.out H0.out, cell_later HBW3.out H1.out⟩, ?_⟩
  refine wpAnyT_two (i := 11) (k := 12) (by kernel_rfl) ?_ ?_
  · simp only [pickOps, List.flatMap_cons, List.flatMap_nil, List.drop_succ_cons, List.drop_zero, List.take_succ_cons, List.take_zero, List.cons_append, List.nil_append, List.append_nil]
    go_wp2
    refine ⟨fun _ hS => ⟨hS.1.alloc _, ca hS.2.1, ca hS.2.2⟩, ?_⟩
    refine wpAnyT_one (i := 12) (by kernel_rfl) ?_
    simp only [pickOps, List.flatMap_cons, List.flatMap_nil, List.drop_succ_cons, List.drop_zero, List.take_succ_cons, List.take_zero, List.cons_append, List.nil_append, List.append_nil]
    have hBB := block_alloc HBB.out (.cells #[.slice sv (weaveP xss m).length cv] 22)
    clear q0 q1 q2 q3 q4 q5 r0 r1 r2 r3 r4 r5
    have q0 := cells_row _ _ hBB 0 _ rfl
    have q1 := cells_row _ _ hBB 1 _ rfl
    have q2 := cells_row _ _ hBB 2 _ rfl
    have q3 := cells_row _ _ hBB 3 _ rfl
    have q4 := cells_row _ _ hBB 4 _ rfl
    have q5 := cells_row _ _ hBB 5 _ rfl
    have r0 := frozen_of_block hBB 0
    have r1 := frozen_of_block hBB 1
    have r2 := frozen_of_block hBB 2
    have r3 := frozen_of_block hBB 3
    have r4 := frozen_of_block hBB 4
    have r5 := frozen_of_block hBB 5
    have HB4 := Lib.hid hBB
    clear hBB
    go_wp2
    refine ⟨fun _ hS => keep3 hS (by omega) (by show pb ≠ _; omega) (by show pb ≠ _; omega), ?_⟩
    refine wpAnyT_list (ks := [13, 14]) (fun _ _ hx h => ⟨h.1.ext hx, hx.cell h.2.1, hx.cell h.2.2⟩) (by kernel_rfl) ?_
    simp only [pickOps, List.flatMap_cons, List.flatMap_nil, List.drop_succ_cons, List.drop_zero, List.take_succ_cons, List.take_zero, List.cons_append, List.nil_append, List.append_nil]
    go_wp2
    have hBB := HB4.out
    have hK := block_setCell (block_setCell (block_setCell (block_setCell (block_setCell (block_setCell hBB 0 (.int .u8 4)) 1 (.slice (some ⟨pb, po, none⟩) 2 c1)) 2 (.slice a2 n2 c2)) 3 (.slice a3 n3 c3)) 4 (.slice a4 n4 c4)) 5 (.int .i64 n)
    refine bodyPost_ret_by (results_row_tmp2 rfl _ _ _ _ _ _ _ rfl hK Try.underlying48 rfl (by kernel_rfl)) rfl ?_
    exact done_fin HK.out (HBW3.out.alloc (HBW3.out.size) _) (mods6 (Mods.refl _ _) rfl) (llc_lit 22 rfl (colN_new hs3) (ints_colN HO.out (by simp)))
  · simp only [pickOps, List.flatMap_cons, List.flatMap_nil, List.drop_succ_cons, List.drop_zero, List.take_succ_cons, List.take_zero, List.cons_append, List.nil_append, List.append_nil]
    go_wp2
    refine ⟨fun _ hS => keep3 hS (by omega) (by show pb ≠ _; omega) (by show pb ≠ _; omega), ?_⟩
    refine wpAnyT_one (i := 11) (by kernel_rfl) ?_
    simp only [pickOps, List.flatMap_cons, List.flatMap_nil, List.drop_succ_cons, List.drop_zero, List.take_succ_cons, List.take_zero, List.cons_append, List.nil_append, List.append_nil]
    go_wp2
    refine ⟨fun _ hS => ⟨hS.1.alloc _, ca hS.2.1, ca hS.2.2⟩, ?_⟩
    refine wpAnyT_list (ks := [13, 14]) (fun _ _ hx h => ⟨h.1.ext hx, hx.cell h.2.1, hx.cell h.2.2⟩) (by kernel_rfl) ?_
    simp only [pickOps, List.flatMap_cons, List.flatMap_nil, List.drop_succ_cons, List.drop_zero, List.take_succ_cons, List.take_zero, List.cons_append, List.nil_append, List.append_nil]
    go_wp2
    have hBB := HBB.out
    have hK := block_setCell (block_setCell (block_setCell (block_setCell (block_setCell (block_setCell hBB 0 (.int .u8 4)) 1 (.slice (some ⟨pb, po, none⟩) 2 c1)) 2 (.slice a2 n2 c2)) 3 (.slice a3 n3 c3)) 4 (.slice a4 n4 c4)) 5 (.int .i64 n)
    have hK2 := block_alloc hK (.cells #[.slice sv (weaveP xss m).length cv] 22)
    refine bodyPost_ret_by (results_row_tmp2 rfl _ _ _ _ _ _ _ rfl hK2 Try.underlying48 rfl (by kernel_rfl)) rfl ?_
    have hB6 : Below w.heap.size w _ := six_below HBW3.out HBW3.out.size (.int .u8 4) (.slice (some ⟨pb, po, none⟩) 2 c1) (.slice a2 n2 c2) (.slice a3 n3 c3) (.slice a4 n4 c4) (.int .i64 n)
    have hI6 := (ints_colN HO.out (by simp)).turn (six_turn w.heap.size w3 (.int .u8 4) (.slice (some ⟨pb, po, none⟩) 2 c1) (.slice a2 n2 c2) (.slice a3 n3 c3) (.slice a4 n4 c4) (.int .i64 n)) (by decide)
    exact done_fin HK.out (hB6.alloc hB6.size _) (Mods.refl _ _) (llc_lit 22 (by simp [six]) (colN_new hs3) hI6)

set_option maxRecDepth 100000 in
set_option maxHeartbeats 2000000 in
theorem rdone_5 (w : World) (o : Col) (c : Nat) (a1 a2 a3 a4 : Option Addr) (n1 n2 n3 n4 c1 c2 c3 c4 : Nat) (insv : Value) (n : Int) (u m : Nat) (keep l : List Int) (hk : Ints w o c (.slice a4 n4 c4) keep)
    (hp : Has w (.slice a1 n1 c1) (ivs [(u : Int), (m : Int)])) (hins : LL w insv [l]) (hu : u ≤ 16) (hm : m ≤ 64) (hl : l.length = u * m) :
    Calls Try.prog 48 #[.agg #[.int .u8 5, .slice a1 n1 c1, .slice a2 n2 c2, .slice a3 n3 c3, .slice a4 n4 c4, .int .i64 n], insv] w (DoneRef w o c 5 (.slice a1 n1 c1) (.slice a2 n2 c2) (.slice a3 n3 c3) (.slice a4 n4 c4) n (some (partP u m l, keep))) := by
  obtain ⟨ia, ic, rfl⟩ := hins.slice
  obtain ⟨bi, oi, rfl, hci, hrow⟩ := hins.at (by simp)
  obtain ⟨a0, c0, hr0, hh0⟩ := hrow 0 (by simp)
  simp only [List.length_cons, List.length_nil, List.getElem?_cons_zero, Option.getD_some, Nat.add_zero, Nat.zero_add] at hr0 hh0 hci ⊢
  have hci1 : (1 : Int) ≤ ic := by omega
  have HH := Lib.hid hh0
  have HR0 := Lib.hid hr0
  have HL := Lib.hid hl
  clear hins hl hrow hh0 hr0 hci
  have HK := Lib.hid hk
  obtain ⟨pb, po, rfl, hn1, hc1, -, -, hpc⟩ := Vals.at hp (by simp)
  have hp0 := hpc 0 (by simp)
  have hp1 := hpc 1 (by simp)
  simp at hp0 hp1 hn1
  subst hn1
  have hpb : pb < w.heap.size := World.block_lt_of_cell? _ _ hp0
  have hc1i : (2 : Int) ≤ c1 := by omega
  have hui : (u : Int) ≤ 16 := by omega
  have hmi : (m : Int) ≤ 64 := by omega
  have S0 := (six_new w (.int .u8 5) (.slice (some ⟨pb, po, none⟩) 2 c1) (.slice a2 n2 c2) (.slice a3 n3 c3) (.slice a4 n4 c4) (.int .i64 n) 48).alloc (.cells #[.int .u8 0, .slice none 0 0, .slice none 0 0, .slice none 0 0, .slice none 0 0, .int .i64 0] 48)
  have hbW : ∀ x : Obj, Below w.heap.size w ((w.alloc (.cells #[.int .u8 5, .slice (some ⟨pb, po, none⟩) 2 c1, .slice a2 n2 c2, .slice a3 n3 c3, .slice a4 n4 c4, .int .i64 n] 48)).alloc x) := fun x => (below_alloc w _).alloc (by simp) _
  have HBW := Lib.hid hbW
  have H0 := Lib.hid hp0
  have H1 := Lib.hid hp1
  have hB0 := heap_alloc_new (w.alloc (.cells #[.int .u8 5, .slice (some ⟨pb, po, none⟩) 2 c1, .slice a2 n2 c2, .slice a3 n3 c3, .slice a4 n4 c4, .int .i64 n] 48)) (.cells #[.int .u8 0, .slice none 0 0, .slice none 0 0, .slice none 0 0, .slice none 0 0, .int .i64 0] 48)
  rw [World.size_alloc] at hB0
  have hK0 := heap_alloc_new (w.alloc (.cells #[.int .u8 5, .slice (some ⟨pb, po, none⟩) 2 c1, .slice a2 n2 c2, .slice a3 n3 c3, .slice a4 n4 c4, .int .i64 n] 48)) (.cells #[.int .u8 5, .slice (some ⟨pb, po, none⟩) 2 c1, .slice a2 n2 c2, .slice a3 n3 c3, .slice a4 n4 c4, .int .i64 n] 48)
  rw [World.size_alloc] at hK0
  have HB0 := Lib.hid hB0
  have HK0 := Lib.hid hK0
  clear hk hpc hp0 hp1 hB0 hK0 hbW hp
  have HS := Lib.hid S0
  clear S0
  go_enter Try.func48, Try.ntmps48
  go_wp2_with fail
  refine wp_region_rest (fun w' => Six w' w.heap.size (.int .u8 5) (.slice (some ⟨pb, po, none⟩) 2 c1) (.slice a2 n2 c2) (.slice a3 n3 c3) (.slice a4 n4 c4) (.int .i64 n) ∧ (w'.cell? ⟨pb, po, none⟩ = some (.int .i64 u) ∧ w'.cell? ⟨pb, po + 1, none⟩ = some (.int .i64 m)) ∧ w'.cell? ⟨bi, oi, none⟩ = some (.slice a0 l.length c0)) [0, 1, 2, 3, 4, 5, 6, 7, 8, 9, 10, 11] [12] 4 (by kernel_rfl) (by kernel_rfl) rfl ⟨HS.out, ⟨cell_later (below_drew (HBW.out _)) H0.out, cell_later (below_drew (HBW.out _)) H1.out⟩, cell_later (below_drew (HBW.out _)) HR0.out⟩ ?_
  intro Q' hQ'
  simp only [pickOps, List.flatMap_cons, List.flatMap_nil, List.drop_succ_cons, List.drop_zero, List.take_succ_cons, List.take_zero, List.cons_append, List.nil_append, List.append_nil]
  repeat (first
    | (refine wpReads_skip (by rfl) ?_; (try simp only [Act.put, List.setIfInBounds_toArray, List.set_cons_zero, List.set_cons_succ]))
    | (refine wpReads_cons ?_ (by rfl) (by rfl) ?_ ?_; rotate_left; (intro wz hz; (try dsimp only at hz); go_simp; try with_reducible rfl); (try simp only [Act.put, List.setIfInBounds_toArray, List.set_cons_zero, List.set_cons_succ]))
    | (refine wpReads_any ?_ (by rfl) ?_ ?_; rotate_left; (intro wz; go_simp; try with_reducible rfl); (try simp only [Act.put, List.setIfInBounds_toArray, List.set_cons_zero, List.set_cons_succ])))
  refine wpReads_nil ?_
  refine wpAnyT_one (i := 12) (by kernel_rfl) ?_
  simp only [pickOps, List.flatMap_cons, List.flatMap_nil, List.drop_succ_cons, List.drop_zero, List.take_succ_cons, List.take_zero, List.cons_append, List.nil_append, List.append_nil]
  go_wp2_with fail
  refine (rparted_any _ u m l _ hu hm HL.out (HH.out.below (below_drew (HBW.out _)))).mono ?_
  rintro e w3 ⟨v, rfl, ho, hb⟩
  obtain ⟨sv, cv, rfl⟩ := ho.ll.slice
  have hb3 : Below w.heap.size w w3 := (HBW.out _).trans ((below_ld (n := 1) hb).mono (HBW.out _).size)
  have hBB := block_mods HB0.out (Mods.of_below (below_ld (n := 1) hb) (fun _ => False)) (fun h => h)
  have q0 := cells_row _ _ hBB 0 _ rfl
  have q1 := cells_row _ _ hBB 1 _ rfl
  have q2 := cells_row _ _ hBB 2 _ rfl
  have q3 := cells_row _ _ hBB 3 _ rfl
  have q4 := cells_row _ _ hBB 4 _ rfl
  have q5 := cells_row _ _ hBB 5 _ rfl
  have r0 := frozen_of_block hBB 0
  have r1 := frozen_of_block hBB 1
  have r2 := frozen_of_block hBB 2
  have r3 := frozen_of_block hBB 3
  have r4 := frozen_of_block hBB 4
  have r5 := frozen_of_block hBB 5
  have HB3 := Lib.hid hb
  have HBW3 := Lib.hid hb3
  have HBB := Lib.hid hBB
  have HO : Hid (LLc w3 (colN w.heap.size) 2 (.slice sv (partP u m l).length cv) (partP u m l)) := Lib.hid (ho.recol (fun k _ e => by
    unfold fresh0 at e
    show (if k < w.heap.size + 2 then 0 else 2) = 2
    simpa using e))
  clear hb hb3 hBB ho
  go_wp2
  refine ⟨fun _ hS => ⟨hS.1.below HB3.out, ⟨cell_later HBW3.out H0.out, cell_later HBW3.out H1.out⟩, cell_later HBW3.out HR0.out⟩, ?_⟩
  refine wpAnyT_list (ks := [13, 14, 15]) (fun _ _ hx h => ⟨h.1.ext hx, ⟨hx.cell h.2.1.1, hx.cell h.2.1.2⟩, hx.cell h.2.2⟩) (by kernel_rfl) ?_
  simp only [pickOps, List.flatMap_cons, List.flatMap_nil, List.drop_succ_cons, List.drop_zero, List.take_succ_cons, List.take_zero, List.cons_append, List.nil_append, List.append_nil]
  go_wp2
  have hBB := HBB.out
  have hK := block_setCell (block_setCell (block_setCell (block_setCell (block_setCell (block_setCell hBB 0 (.int .u8 5)) 1 (.slice (some ⟨pb, po, none⟩) 2 c1)) 2 (.slice a2 n2 c2)) 3 (.slice a3 n3 c3)) 4 (.slice a4 n4 c4)) 5 (.int .i64 n)
  refine bodyPost_ret_by (results_row_tmp2 rfl _ _ _ _ _ _ _ rfl hK Try.underlying48 rfl (by kernel_rfl)) rfl ?_
  exact done_fin HK.out HBW3.out (mods6 (Mods.refl _ _) rfl) HO.out
end Go.Proofs.Ytknmiiajeafjpaa

/- The reference's done: up, copies. -/
namespace Go.Proofs.Ytknmiiajeafjpaa
open Go.RowKit


theorem set_zero (u : Nat) (x : Int) (h : 1 ≤ u) : (ivs (List.replicate u 0)).set 0 (iv x) = ivs (x :: List.replicate (u - 1) 0) := by
  obtain ⟨k, rfl⟩ : ∃ k, u = k + 1 := ⟨u - 1, by omega⟩
  simp [ivs, List.replicate_succ]

set_option maxRecDepth 100000 in
set_option maxHeartbeats 2000000 in
theorem rdone_2 (w : World) (o : Col) (c : Nat) (a1 a2 a3 a4 : Option Addr) (n1 n2 n3 n4 c1 c2 c3 c4 : Nat) (insv : Value) (n x : Int) (u : Nat) (keep : List Int) (hk : Ints w o c (.slice a4 n4 c4) keep)
    (hp : Has w (.slice a1 n1 c1) (ivs [(u : Int)])) (hins : LL w insv [[x]]) (hu : u ≤ 64) (hu1 : 1 ≤ u) :
    Calls Try.prog 48 #[.agg #[.int .u8 2, .slice a1 n1 c1, .slice a2 n2 c2, .slice a3 n3 c3, .slice a4 n4 c4, .int .i64 n], insv] w (DoneRef w o c 2 (.slice a1 n1 c1) (.slice a2 n2 c2) (.slice a3 n3 c3) (.slice a4 n4 c4) n (some ([x :: List.replicate (u - 1) 0], keep))) := by
  obtain ⟨i0, hi, hz0, hz1, hz2⟩ := info_parts info_int
  have HK := Lib.hid hk
  obtain ⟨ia, ic, rfl⟩ := hins.slice
  obtain ⟨bi, oi, rfl, hci, hrow⟩ := hins.at (by simp)
  obtain ⟨a0, c0, hr0, hh0⟩ := hrow 0 (by simp)
  simp only [List.length_cons, List.length_nil, List.getElem?_cons_zero, Option.getD_some, Nat.add_zero, Nat.zero_add] at hr0 hh0 hci ⊢
  obtain ⟨b0, o0, rfl, -, hc0, -, -, hx0⟩ := Vals.at hh0 (by simp)
  have hx1 := hx0 0 (by simp)
  simp at hx1
  obtain ⟨pb, po, rfl, hn1, hc1, -, -, hpc⟩ := Vals.at hp (by simp)
  have hp0 := hpc 0 (by simp)
  simp at hp0 hn1
  subst hn1
  have hci1 : (1 : Int) ≤ ic := by omega
  have hc01 : (1 : Int) ≤ c0 := by omega
  have hc1i : (1 : Int) ≤ c1 := by omega
  have hui : (u : Int) ≤ 64 := by omega
  have hu1i : (1 : Int) ≤ u := by omega
  have hui0 : (0 : Int) < u := by omega
  obtain ⟨A, hA⟩ : ∃ A, A = Obj.cells #[.int .u8 2, .slice (some ⟨pb, po, none⟩) 1 c1, .slice a2 n2 c2, .slice a3 n3 c3, .slice a4 n4 c4, .int .i64 n] 48 := ⟨_, rfl⟩
  obtain ⟨B, hB⟩ : ∃ B, B = Obj.cells #[.int .u8 0, .slice none 0 0, .slice none 0 0, .slice none 0 0, .slice none 0 0, .int .i64 0] 48 := ⟨_, rfl⟩
  have hbW : Below w.heap.size w ((w.alloc A).alloc B) := (below_alloc w _).alloc (by simp) _
  have hB0 := heap_alloc_new (w.alloc A) B
  have hA0 := block_alloc (heap_alloc_new w A) B
  rw [World.size_alloc] at hB0
  obtain ⟨w3, hr, hown, hg⟩ := run_make_full (P := Try.prog) ((w.alloc A).alloc B) ((w.alloc A).alloc B).heap.size 22 3 i0 _ 1 Try.underlying22 hi hz0 hz1 .i64 .i64 u (by rw [hz2]; omega) (by unfold maxLen; omega) (Nat.le_refl _)
  rw [made_ints] at hown
  have hb3 : Below ((w.alloc A).alloc B).heap.size ((w.alloc A).alloc B) w3 := ((Mods.refl (fun _ => False) _).grown hg (fun k hk _ => by cases hk)).below (Nat.le_refl _) (fun _ _ h => h)
  have hA3 := block_mods hA0 (Mods.of_below hb3 (fun _ => False)) (fun h => h)
  have hB3 := block_mods hB0 (Mods.of_below hb3 (fun _ => False)) (fun h => h)
  have hbw3 : Below w.heap.size w w3 := hbW.trans (hb3.mono hbW.size)
  have p2 := ca (o := B) (ca (o := A) hp0)
  have e0 := cell_later hbw3 hr0
  have e1 := cell_later hbw3 hx1
  have sz : ((w.alloc A).alloc B).heap.size = w.heap.size + 1 + 1 := by simp
  rw [sz] at hown hr hb3
  subst hA
  have s0 := cells_row _ _ hA3 0 (.int .u8 2) rfl
  have s1 := cells_row _ _ hA3 1 (.slice (some ⟨pb, po, none⟩) 1 c1) rfl
  have s2 := cells_row _ _ hA3 2 (.slice a2 n2 c2) rfl
  have s3 := cells_row _ _ hA3 3 (.slice a3 n3 c3) rfl
  have s4 := cells_row _ _ hA3 4 (.slice a4 n4 c4) rfl
  have s5 := cells_row _ _ hA3 5 (.int .i64 n) rfl
  subst hB
  have HBB := Lib.hid hB3
  have HOWN := Lib.hid hown
  have HB3 := Lib.hid hb3
  have HBW3 := Lib.hid hbw3
  obtain ⟨_, _, g, _, ge, gc, gf, _⟩ := owns_cell hown (by simp; omega)
  cases ge
  have gc0 := gc 0 (iv 0) (by rw [List.getElem?_map, List.getElem?_replicate, if_pos (by omega)]; rfl)
  have gf0 := gf 0
  clear hk hins hrow hh0 hx0 hr0 hx1 hpc hp hA0 hA3 hB0 hB3 hown hb3 hbw3 hbW sz gc gf hg
  have hBB := block_alloc (block_setCell_ne (a := ⟨w.heap.size + 1 + 1, 0, none⟩) HBB.out (show w.heap.size + 1 ≠ w.heap.size + 1 + 1 by omega) (.int .i64 x)) (.cells #[.slice (some ⟨w.heap.size + 1 + 1, 0, none⟩) u u] 22)
  have q0 := cells_row _ _ hBB 0 _ rfl
  have q1 := cells_row _ _ hBB 1 _ rfl
  have q2 := cells_row _ _ hBB 2 _ rfl
  have q3 := cells_row _ _ hBB 3 _ rfl
  have q4 := cells_row _ _ hBB 4 _ rfl
  have q5 := cells_row _ _ hBB 5 _ rfl
  have r0 := frozen_of_block hBB 0
  have r1 := frozen_of_block hBB 1
  have r2 := frozen_of_block hBB 2
  have r3 := frozen_of_block hBB 3
  have r4 := frozen_of_block hBB 4
  have r5 := frozen_of_block hBB 5
  have HB5 := Lib.hid hBB
  clear hBB
  go_enter Try.func48, Try.ntmps48
  go_wp2
  have hBB := HB5.out
  have hK := block_setCell (block_setCell (block_setCell (block_setCell (block_setCell (block_setCell hBB 0 (.int .u8 2)) 1 (.slice (some ⟨pb, po, none⟩) 1 c1)) 2 (.slice a2 n2 c2)) 3 (.slice a3 n3 c3)) 4 (.slice a4 n4 c4)) 5 (.int .i64 n)
  refine bodyPost_ret_by (results_row_tmp2 rfl _ _ _ _ _ _ _ rfl hK Try.underlying48 rfl (by kernel_rfl)) rfl ?_
  obtain ⟨hst, _⟩ := HOWN.out.stored 0 (iv x)
  rw [set_zero u x hu1] at hst
  have hb6 : Below w.heap.size w (w3.setCell ⟨w.heap.size + 1 + 1, 0, none⟩ (iv x)) := HBW3.out.setCell (by show w.heap.size ≤ w.heap.size + 1 + 1; omega) _
  have hlen : (x :: List.replicate (u - 1) 0).length = u := by simp; omega
  have hI : Ints (w3.setCell ⟨w.heap.size + 1 + 1, 0, none⟩ (iv x)) (colN w.heap.size) 2 (.slice (some ⟨w.heap.size + 1 + 1, 0, none⟩) u u) (x :: List.replicate (u - 1) 0) := ints_colN (M := w.heap.size + 1 + 1) (by rw [hlen]; exact hst) (Nat.le_refl _)
  have hs3 : w.heap.size + 2 ≤ w3.heap.size := by simpa using HB3.out.size
  exact done_fin HK.out (hb6.alloc hb6.size _) (mods6 (Mods.refl _ _) rfl) (llc_lit 22 (by simp) (colN_new (by simpa using hs3)) hI)

set_option maxRecDepth 100000 in
set_option maxHeartbeats 2000000 in
theorem rdone_9 (w : World) (o : Col) (c : Nat) (a1 a2 a3 a4 : Option Addr) (n1 n2 n3 n4 c1 c2 c3 c4 : Nat) (insv : Value) (n x : Int) (u : Nat) (keep : List Int) (hk : Ints w o c (.slice a4 n4 c4) keep)
    (hp : Has w (.slice a1 n1 c1) (ivs [(u : Int)])) (hins : LL w insv [[x]]) (hu : u ≤ 64) :
    Calls Try.prog 48 #[.agg #[.int .u8 9, .slice a1 n1 c1, .slice a2 n2 c2, .slice a3 n3 c3, .slice a4 n4 c4, .int .i64 n], insv] w (DoneRef w o c 9 (.slice a1 n1 c1) (.slice a2 n2 c2) (.slice a3 n3 c3) (.slice a4 n4 c4) n (some (List.replicate u [x], keep))) := by
  obtain ⟨j0, ji, jz0, jz1, jz2⟩ := info_parts info_ints
  have HK := Lib.hid hk
  obtain ⟨ia, ic, rfl⟩ := hins.slice
  obtain ⟨bi, oi, rfl, hci, hrow⟩ := hins.at (by simp)
  obtain ⟨a0, c0, hr0, hh0⟩ := hrow 0 (by simp)
  simp only [List.length_cons, List.length_nil, List.getElem?_cons_zero, Option.getD_some, Nat.add_zero, Nat.zero_add] at hr0 hh0 hci ⊢
  obtain ⟨b0, o0, rfl, -, hc0, -, -, hx0⟩ := Vals.at hh0 (by simp)
  have hx1 := hx0 0 (by simp)
  simp at hx1
  obtain ⟨pb, po, rfl, hn1, hc1, -, -, hpc⟩ := Vals.at hp (by simp)
  have hp0 := hpc 0 (by simp)
  simp at hp0 hn1
  subst hn1
  have hci1 : (1 : Int) ≤ ic := by omega
  have hc01 : (1 : Int) ≤ c0 := by omega
  have hc1i : (1 : Int) ≤ c1 := by omega
  have hui : (u : Int) ≤ 64 := by omega
  obtain ⟨A, hA⟩ : ∃ A, A = Obj.cells #[.int .u8 9, .slice (some ⟨pb, po, none⟩) 1 c1, .slice a2 n2 c2, .slice a3 n3 c3, .slice a4 n4 c4, .int .i64 n] 48 := ⟨_, rfl⟩
  obtain ⟨B, hB⟩ : ∃ B, B = Obj.cells #[.int .u8 0, .slice none 0 0, .slice none 0 0, .slice none 0 0, .slice none 0 0, .int .i64 0] 48 := ⟨_, rfl⟩
  have hbW : Below w.heap.size w ((w.alloc A).alloc B) := (below_alloc w _).alloc (by simp) _
  have HB0 := Lib.hid (heap_alloc_new (w.alloc A) B)
  have HA0 := Lib.hid (block_alloc (heap_alloc_new w A) B)
  have HP0 := Lib.hid (ca (o := B) (ca (o := A) hp0))
  have HR0 := Lib.hid (ca (o := B) (ca (o := A) hr0))
  have HX1 := Lib.hid (ca (o := B) (ca (o := A) hx1))
  have HBW := Lib.hid hbW
  obtain ⟨W, hW⟩ : ∃ W, W = (w.alloc A).alloc B := ⟨_, rfl⟩
  have hsz : W.heap.size = w.heap.size + 1 + 1 := by rw [hW]; simp
  rw [← hW] at HB0 HA0 HP0 HR0 HX1 HBW
  rw [World.size_alloc] at HB0
  subst hA hB
  have HW := Lib.hid hW
  have HSZ := Lib.hid hsz
  clear hk hins hrow hh0 hx0 hr0 hx1 hpc hp hp0 hbW hW hsz
  go_enter Try.func48, Try.ntmps48
  go_wp2_with fail
  rw [← HW.out]
  go_loopw [8, 9] (fun v i wr => ∃ (k : Nat) (o1 : Col) (vs : List Value), k ≤ u ∧ i = .int .i64 k ∧ Grows wr o1 v k vs (List.replicate k [x]) ∧ Kept W.heap.size o1 W wr) (fun _ i _ => u - (intOf i).toNat)
  case atStart => exact ⟨0, fun _ => 0, [], Nat.zero_le _, rfl, Grows.nil W _, Kept.start W⟩
  case round =>
    obtain ⟨k, o1, vs, hk, rfl, hG, hK⟩ := hrel
    obtain ⟨sv, cv, rfl⟩ := hG.1.slice
    have p0 := cell_later hK.below HP0.out
    have hA3 := block_mods HA0.out (Mods.of_below hK.below (fun _ => False)) (fun h => h)
    have hB3 := block_mods HB0.out (Mods.of_below hK.below (fun _ => False)) (fun h => h)
    have s0 := cells_row _ _ hA3 0 (.int .u8 9) rfl
    have s1 := cells_row _ _ hA3 1 (.slice (some ⟨pb, po, none⟩) 1 c1) rfl
    have s2 := cells_row _ _ hA3 2 (.slice a2 n2 c2) rfl
    have s3 := cells_row _ _ hA3 3 (.slice a3 n3 c3) rfl
    have s4 := cells_row _ _ hA3 4 (.slice a4 n4 c4) rfl
    have s5 := cells_row _ _ hA3 5 (.int .i64 n) rfl
    have HG := Lib.hid hG
    have HKK := Lib.hid hK
    have HB3 := Lib.hid hB3
    by_cases hlt : k < u
    · have hlti : (k : Int) < u := by omega
      have r0 := cell_later hK.below HR0.out
      have x1 := cell_later hK.below HX1.out
      have hI := ints_lit (w := wr) (o := ext o1 wr.heap.size 2) (c := 2) [x] 3 rfl (ext_new (Nat.le_refl _)) 1 rfl
      have hG1 := hG.turn (Turn.of_below o1 2 (below_alloc wr (.cells #[.int .i64 x] 3))) (fun h => h) (fun h => h)
      have hK1 := hK.turn (Turn.of_below o1 2 (below_alloc wr (.cells #[.int .i64 x] 3))) (fun h => h)
      have HI := Lib.hid hI
      have HG1 := Lib.hid hG1
      have HK1 := Lib.hid hK1
      have hown := hG1.1.1
      have hnw := news_alloc (wr.alloc (.cells #[.int .i64 x] 3)) [.slice (some ⟨wr.heap.size, 0, none⟩) 1 1] 22
      rw [World.size_alloc] at hnw
      clear hA3 hB3 hG hK hI hG1 hK1
      go_wp2_with (at_builtin; refine stop_here ?_)
      refine go_on ?_
      refine wpList_app rfl _ _ 29 rfl 0 22 j0 _ 1 24 Try.underlying29 ji jz0 jz1 jz2 rfl (.slice sv k cv) k _ rfl (hown.alloc (.cells #[.slice (some ⟨wr.heap.size, 0, none⟩) 1 1] 22)) (some ⟨wr.heap.size + 1, 0, none⟩) 1 1 [.slice (some ⟨wr.heap.size, 0, none⟩) 1 1] rfl rfl (fun h => by cases h) hnw (by simp [Value.oneCell']) (by unfold maxLen; omega) (grow_ok (by omega)) (Nat.zero_le _) ?_
      intro v5 w5 k1 k20 _ k4
      have k2 : ((wr.alloc (.cells #[.int .i64 x] 3)).alloc (.cells #[.slice (some ⟨wr.heap.size, 0, none⟩) 1 1] 22)).grownBy w5 (Value.slice sv k cv).ownBlock := ⟨k20.os, k20.tape, k20.output, k20.size, k20.block⟩
      obtain ⟨G5, T5⟩ := HG1.out.app HI.out k1 k2 k4
      have HG5 := Lib.hid (show Grows w5 _ v5 (k + 1) _ (List.replicate (k + 1) [x]) by rw [List.replicate_succ']; exact G5)
      have HK5 := Lib.hid (HK1.out.turn T5 (by decide))
      clear k1 k20 k2 k4 hnw hown G5 T5 HG HKK HB3 HG1 HK1 HI s0 s1 s2 s3 s4 s5 p0 r0 x1
      go_wp2
      go_roundw
      case rel => exact ⟨k + 1, _, _, by omega, by go_num, HG5.out, HK5.out⟩
      case measure => simp [intOf]; omega
    · obtain rfl : k = u := by omega
      have hBB := hB3
      have q0 := cells_row _ _ hBB 0 _ rfl
      have q1 := cells_row _ _ hBB 1 _ rfl
      have q2 := cells_row _ _ hBB 2 _ rfl
      have q3 := cells_row _ _ hBB 3 _ rfl
      have q4 := cells_row _ _ hBB 4 _ rfl
      have q5 := cells_row _ _ hBB 5 _ rfl
      have r0 := frozen_of_block hBB 0
      have r1 := frozen_of_block hBB 1
      have r2 := frozen_of_block hBB 2
      have r3 := frozen_of_block hBB 3
      have r4 := frozen_of_block hBB 4
      have r5 := frozen_of_block hBB 5
      clear hA3 hB3 hG hK hBB
      go_wp2
      have hBB := HB3.out
      have hK := block_setCell (block_setCell (block_setCell (block_setCell (block_setCell (block_setCell hBB 0 (.int .u8 9)) 1 (.slice (some ⟨pb, po, none⟩) 1 c1)) 2 (.slice a2 n2 c2)) 3 (.slice a3 n3 c3)) 4 (.slice a4 n4 c4)) 5 (.int .i64 n)
      refine bodyPost_ret_by (results_row_tmp2 rfl _ _ _ _ _ _ _ rfl hK Try.underlying48 rfl (by kernel_rfl)) rfl ?_
      have hL : LLc wr (colN w.heap.size) 2 (.slice sv k cv) (List.replicate k [x]) := HG.out.llc (fun j hj e => colN_new (by
        rcases Nat.lt_or_ge j W.heap.size with h | h
        · have := HKK.out.old j h; omega
        · have := HSZ.out; omega))
      have := HSZ.out
      exact done_fin HK.out (HBW.out.trans (HKK.out.below.mono (by omega))) (mods6 (Mods.refl _ _) rfl) hL
end Go.Proofs.Ytknmiiajeafjpaa
