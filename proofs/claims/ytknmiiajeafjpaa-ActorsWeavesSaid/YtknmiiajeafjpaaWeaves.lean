/- ActorsWeaves, walked. -/
import Derived.Test.YtknmiiajeafjpaaUpDown
import Derived.Test.YtknmiiajeafjpaaWeaveLaw
namespace Go.Proofs.Ytknmiiajeafjpaa
open Go.RowKit

theorem New_two (w : World) (o : Col) (c d : Nat) (t n k : Int) (hcd : c ≠ d) (hg : goodP t [n, k]) (hf : Fits n) (hf2 : Fits k) (m : Nat) (hm : m = w.heap.size) : Calls Try.prog 12 #[.int .u8 t, .slice (some ⟨m, 0, none⟩) 2 2] (w.alloc (.cells #[.int .i64 n, .int .i64 k] 3)) (NewAct (w.alloc (.cells #[.int .i64 n, .int .i64 k] 3)) o c d t [n, k]) :=
  New_act o c d hcd hg (fun x hx => by rcases List.mem_cons.1 hx with rfl | hx; exact hf; rw [List.mem_singleton.1 hx]; exact hf2) (has_lit w [n, k] 3 m hm (by simp))
theorem New_two_no (w : World) (t n k : Int) (hg : ¬ goodP t [n, k]) (m : Nat) (hm : m = w.heap.size) : Calls Try.prog 12 #[.int .u8 t, .slice (some ⟨m, 0, none⟩) 2 2] (w.alloc (.cells #[.int .i64 n, .int .i64 k] 3)) (NewNo (w.alloc (.cells #[.int .i64 n, .int .i64 k] 3)) (errP t)) :=
  New_no hg (by simp) (has_lit w [n, k] 3 m hm (by simp))


set_option maxRecDepth 100000 in
set_option maxHeartbeats 2000000 in
theorem weaves_no (w : World) (n m : Int) (v : Value) (hn : ¬ goodP 4 [n, m]) : Calls Try.prog 4 #[.int .i64 n, .int .i64 m, v] w fun e w' => e = .returned (.bool true) ∧ Below w.heap.size w w' := by
  have hn5 : ¬ goodP 5 [n, m] := by simpa [goodP] using hn
  have hcase : n < 1 ∨ (1 ≤ n ∧ 16 < n) ∨ ((1 ≤ n ∧ n ≤ 16) ∧ m < 1) ∨ ((1 ≤ n ∧ n ≤ 16) ∧ (1 ≤ m ∧ 64 < m)) ∨ ((1 ≤ n ∧ n ≤ 16) ∧ (1 ≤ m ∧ m ≤ 64) ∧ 64 < n * m ∧ n * m ≤ 1024) := by
    rcases pair_cases n m with h | h | h | h
    · omega
    · omega
    · exact absurd (by simp [goodP, pairP, hd, hd1]; omega) hn
    · omega
  have HN := Lib.hid hn
  have HN5 := Lib.hid hn5
  have HC := Lib.hid hcase
  clear hn hn5 hcase
  go_enter Try.func4, Try.ntmps4
  go_wp2_with fail
  refine (New_two_no w 4 n m HN.out _ rfl).mono ?_
  rintro e w1 ⟨rfl, hb1⟩
  have e2 : errP 4 = 61 := by decide
  have e3 : errP 5 = 61 := by decide
  have hb1 : Below w.heap.size w w1 := (below_alloc w _).trans (hb1.mono (by simp))
  go_wp2_with fail
  refine (New_two_no w1 5 n m HN5.out _ rfl).mono ?_
  rintro e w2 ⟨rfl, hb2⟩
  have hb2 : Below w.heap.size w w2 := hb1.trans (((below_alloc w1 _).trans (hb2.mono (by simp))).mono hb1.size)
  rcases HC.out with h | ⟨h, h2⟩ | ⟨⟨h, h2⟩, h3⟩ | ⟨⟨h, h2⟩, h3, h4⟩ | ⟨⟨h, h2⟩, ⟨h3, h4⟩, h5, h6⟩
  · go_wp2_with fail
    refine (awake_yes w2).mono ?_
    rintro e w3 ⟨rfl, hb3⟩
    go_wp2
    go_ret
    exact ⟨rfl, hb2.trans (hb3.mono hb2.size)⟩
  · go_wp2_with fail
    refine (awake_yes w2).mono ?_
    rintro e w3 ⟨rfl, hb3⟩
    go_wp2
    go_ret
    exact ⟨rfl, hb2.trans (hb3.mono hb2.size)⟩
  · go_wp2_with fail
    refine (awake_yes w2).mono ?_
    rintro e w3 ⟨rfl, hb3⟩
    go_wp2
    go_ret
    exact ⟨rfl, hb2.trans (hb3.mono hb2.size)⟩
  · go_wp2_with fail
    refine (awake_yes w2).mono ?_
    rintro e w3 ⟨rfl, hb3⟩
    go_wp2
    go_ret
    exact ⟨rfl, hb2.trans (hb3.mono hb2.size)⟩
  · have hw : wrap64 (n * m) = n * m := IntWalk.wrap64_in _ (by omega)
    go_wp2_with fail
    refine (awake_yes w2).mono ?_
    rintro e w3 ⟨rfl, hb3⟩
    go_wp2
    go_ret
    exact ⟨rfl, hb2.trans (hb3.mono hb2.size)⟩

theorem ivs_set_take (n k : Nat) (xs : List Int) (h : k < n) (h2 : k < xs.length) : (ivs (xs.take k ++ List.replicate (n - k) 0)).set k (iv (xs[k]?.getD 0)) = ivs (xs.take (k + 1) ++ List.replicate (n - (k + 1)) 0) := by
  have hl : (xs.take k).length = k := by rw [List.length_take]; omega
  obtain ⟨r, hr⟩ : ∃ r, n - k = r + 1 := ⟨n - k - 1, by omega⟩
  have hr2 : n - (k + 1) = r := by omega
  rw [hr, hr2, List.take_succ_eq_append_getElem h2]
  simp only [ivs, List.map_append, List.replicate_succ, List.map_cons, List.map_nil]
  have hA : (List.map (Value.int .i64) (xs.take k)).length = k := by rw [List.length_map, hl]
  generalize List.map (Value.int .i64) (xs.take k) = A at *
  generalize List.map (Value.int .i64) (List.replicate r 0) = B
  rw [List.set_append, if_neg (by omega), show k - A.length = 0 by omega, List.getElem?_eq_getElem h2]
  simp

theorem weave_reckP (n m : Nat) (xss : List (List Int)) : reckP 4 [(n : Int), (m : Int)] [] xss = some ([weaveP xss m], []) := by
  have e : reckP 4 [(n : Int), (m : Int)] [] xss = some ([weaveP xss (hd1 [(n : Int), (m : Int)]).toNat], []) := rfl
  rw [e]; simp [hd1]
theorem unweave_reckP (n m : Nat) (l : List Int) : reckP 5 [(n : Int), (m : Int)] [] [l] = some (partP n m l, []) := by
  have e : reckP 5 [(n : Int), (m : Int)] [] [l] = some (partP (hd [(n : Int), (m : Int)]).toNat (hd1 [(n : Int), (m : Int)]).toNat l, []) := rfl
  rw [e]; simp [hd, hd1]

set_option maxRecDepth 100000 in
set_option maxHeartbeats 8000000 in
theorem weaves_yes (w : World) (n m : Nat) (v : Value) (xs : List Int) (h1 : 1 ≤ n) (h2 : n ≤ 16) (h3 : 1 ≤ m) (h4 : m ≤ 64) (h5 : n * m ≤ 64) (hx : Has w v (ivs xs)) (hf : ∀ x ∈ xs, Fits x) (hl : xs.length ≤ 17600000000000) : Calls Try.prog 4 #[.int .i64 n, .int .i64 m, v] w fun e w' => e = .returned (.bool true) ∧ Below w.heap.size w w' := by
  obtain ⟨i0, hi, hz0, hz1, hz2⟩ := info_parts info_int
  have hg4 : goodP 4 [(n : Int), (m : Int)] := by
    have h5' : (n : Int) * m ≤ 64 := by exact_mod_cast h5
    simp [goodP, pairP, hd, hd1]; omega
  have hg5 : goodP 5 [(n : Int), (m : Int)] := by simpa [goodP] using hg4
  have fn : Fits (n : Int) := by unfold Fits; omega
  have fm : Fits (m : Int) := by unfold Fits; omega
  have k4 : keep0 4 [(n : Int), (m : Int)] = [] := rfl
  have k5 : keep0 5 [(n : Int), (m : Int)] = [] := rfl
  have h1i : (1 : Int) ≤ n := by omega
  have h2i : (n : Int) ≤ 16 := by omega
  have h3i : (1 : Int) ≤ m := by omega
  have h4i : (m : Int) ≤ 64 := by omega
  obtain ⟨p, hp⟩ : ∃ p, n * m = p := ⟨_, rfl⟩
  have hpi : (n : Int) * m = p := by rw [← hp]; simp
  have hp64 : (p : Int) ≤ 64 := by omega
  have hpw : wrap64 ((n : Int) * m) = p := by rw [hpi]; exact IntWalk.wrap64_in _ (by omega)
  obtain ⟨xao, xcp, rfl⟩ := hx.slice
  simp only [ivs_len] at hx ⊢
  have HX := Lib.hid hx
  have HF := Lib.hid hf
  have HL := Lib.hid hl
  have HP := Lib.hid hp
  have HG4 := Lib.hid hg4
  have HG5 := Lib.hid hg5
  have hli : (xs.length : Int) ≤ 17600000000000 := by omega
  clear hx hf hl hp hg4 hg5 hpw
  go_enter Try.func4, Try.ntmps4
  go_wp2_with fail
  have K0 := (Kept.start w).of_below 0 (below_alloc w (.cells #[.int .i64 n, .int .i64 m] 3))
  refine (New_two w (ext (fun _ => 0) w.heap.size 0) 1 2 4 n m (by decide) HG4.out fn fm _ rfl).mono ?_
  rintro e w1 ⟨bw, o1, rfl, T1, A1⟩
  have K1 := K0.turn T1 (fun h => h)
  rw [k4] at A1
  clear K0 T1
  have HA1 := Lib.hid (A1.below 0 (below_alloc w1 (.cells #[.int .i64 n, .int .i64 m] 3)))
  have HK1 := Lib.hid (K1.of_below 0 (below_alloc w1 (.cells #[.int .i64 n, .int .i64 m] 3)))
  clear A1 K1
  go_wp2_with fail
  refine (New_two w1 (ext o1 w1.heap.size 0) 3 4 5 n m (by decide) HG5.out fn fm _ rfl).mono ?_
  rintro e w2 ⟨bu, o2, rfl, T2, A2⟩
  rw [k5] at A2
  have HK2 := Lib.hid (HK1.out.turn T2 (fun h => h))
  have HW := Lib.hid (HA1.out.turn T2 (fun h => h) (fun h => h))
  have HU := Lib.hid A2
  clear A2 T2 HA1 HK1
  obtain ⟨w3, hr, hown, hg⟩ := run_make_full (P := Try.prog) w2 w2.heap.size 22 3 i0 _ 1 Try.underlying22 hi hz0 hz1 .i64 .i64 p (by rw [hz2]; omega) (by unfold maxLen; omega) (Nat.le_refl _)
  have hb3 : Below w2.heap.size w2 w3 := ((Mods.refl (fun _ => False) w2).grown hg (fun k hk _ => by cases hk)).below (Nat.le_refl _) (fun _ _ h => h)
  rw [made_ints] at hown
  go_wp2_with fail
  clear hr hg
  go_loopw [12] (fun i wr => ∃ k : Nat, k ≤ p ∧ k ≤ xs.length ∧ i = .int .i64 k ∧ wr.ownsRow w2.heap.size 3 1 (.slice (some ⟨w2.heap.size, 0, none⟩) p p) p (ivs (xs.take k ++ List.replicate (p - k) 0)) ∧ Below w2.heap.size w2 wr) (fun i _ => p - (intOf i).toNat)
  case atStart => exact ⟨0, Nat.zero_le _, Nat.zero_le _, rfl, by simpa using hown, hb3⟩
  case round =>
    clear hown hb3
    obtain ⟨k, hk, hk2, rfl, ho, hb⟩ := hrel
    by_cases hlt : k < p ∧ k < xs.length
    · obtain ⟨hlt, hlt2⟩ := hlt
      obtain ⟨b0, off, rfl, -, hcx, -, -, hcell⟩ := Vals.at HX.out (by rw [ivs_len]; omega)
      have hx0 := hcell k (by rw [ivs_len]; omega)
      rw [ivs_get (by omega)] at hx0
      have hxr := cell_later hb (cell_later HK2.out.below hx0)
      have hcxi : (xs.length : Int) ≤ xcp := by omega
      have hlt2i : (k : Int) < xs.length := by omega
      have HST := Lib.hid (ivs_set_take p k xs hlt hlt2)
      obtain ⟨_, _, g', _, e, hc, hf, _⟩ := owns_cell ho (by rw [ivs_len, List.length_append, List.length_take, List.length_replicate]; omega)
      cases e
      have hc' := hc k _ (by rw [List.getElem?_eq_getElem (by rw [ivs_len, List.length_append, List.length_take, List.length_replicate]; omega)])
      have hf' := hf k
      have hlti : (k : Int) < p := by omega
      generalize xs[k]?.getD 0 = x at *
      obtain ⟨ho2, hg2⟩ := ho.stored k (iv x)
      rw [HST.out] at ho2
      have hb2 := hb.trans (((Mods.refl (fun j => j = w2.heap.size) wr).grown hg2 (fun j hj _ => (Option.some.inj hj).symm)).below (B := w2.heap.size) (by have := hb.size; omega) (fun j hj e => by omega))
      clear ho hb hg2 hc hf hcell hx0
      go_wp2
      go_roundw
      case rel => exact ⟨k + 1, by omega, by omega, by go_num, ho2, hb2⟩
      case measure => simp [intOf]; omega
    · have hstop : ¬ ((k : Int) < p) ∨ (((k : Int) < p) ∧ ¬ ((k : Int) < xs.length)) := by omega
      obtain ⟨l, hl⟩ : ∃ l, xs.take k ++ List.replicate (p - k) 0 = l := ⟨_, rfl⟩
      have hll : l.length = p := by rw [← hl]; simp; omega
      have hlf : ∀ z ∈ l, Fits z := fun z hz => by
        rw [← hl] at hz
        rcases List.mem_append.1 hz with hz | hz
        · exact HF.out z (List.mem_of_mem_take hz)
        · rw [(List.mem_replicate.1 hz).2]; unfold Fits; omega
      rw [hl] at ho
      rw [← hll] at ho
      have ho' : Ints wr (ext o2 w2.heap.size 5) 5 (.slice (some ⟨w2.heap.size, 0, none⟩) l.length l.length) l := own_ints ho (fun j hj => ext_new (by have e : w2.heap.size = j := Option.some.inj hj; omega))
      rw [hll] at ho'
      have HR := Lib.hid ho'
      have HLL := Lib.hid hll
      have HLF := Lib.hid hlf
      have HKr := Lib.hid (HK2.out.of_below 5 hb)
      have HWr := Lib.hid (HW.out.below 5 hb)
      have HUr := Lib.hid (HU.out.below 5 hb)
      clear hl hll hlf ho ho' hb
      generalize ext o2 w2.heap.size 5 = o at *
      rcases hstop with hs | ⟨hs, hs2⟩
      · go_wp2_with fail
        have hbA := below_alloc wr (.cells #[.slice (some ⟨w2.heap.size, 0, none⟩) p p] 22)
        refine (Fire_act 6 (by decide) (HUr.out.below 0 hbA) (ll_row 22 rfl HR.out.has) (fun r hr z hz => by rw [List.mem_singleton.1 hr] at hz; exact HLF.out z hz) (by unfold Fits; omega) (by simp [insP, hd, hd1, HLL.out, hpi]) (unweave_reckP n m l)).mono ?_
        rintro e w4 ⟨ov, o4, rfl, T4, U4, O4⟩
        have T4' := ((Turn.of_below o 0 hbA).mono (D := fun x => x = 3) (fun _ h => h.elim)).trans T4 (fun _ h => h)
        have HK4 := Lib.hid (HKr.out.turn T4' (by decide))
        have HW4 := Lib.hid (HWr.out.turn T4' (by decide) (by decide))
        have HR4 := Lib.hid (HR.out.turn T4' (by decide))
        have HU4 := Lib.hid U4
        obtain ⟨oa, oc, rfl⟩ := outs_ends O4
        rw [part_len] at O4 ⊢
        have HO4 := Lib.hid O4
        clear O4 T4 T4' U4 hbA HKr HWr HUr HR
        have hln : l.length = n * m := by rw [HLL.out, HP.out]
        have HLN := Lib.hid hln
        clear hln
        go_wp2_with fail
        refine (Fire_act 7 (by decide) HW4.out HO4.out.ll (part_fits n m l HLN.out HLF.out) (by unfold Fits; omega) (by rw [part_lens]; simp [insP, hd, hd1]) (weave_reckP n m _)).mono ?_
        rintro e w5 ⟨ov5, o5, rfl, T5, -, O5⟩
        rw [weave_part n m l HLN.out] at O5
        have HK5 := Lib.hid (HK4.out.turn T5 (by decide))
        have HU5 := Lib.hid (HU4.out.turn T5 (by decide) (by decide))
        have HR5 := Lib.hid (HR4.out.turn T5 (by decide))
        have HO5 := Lib.hid (HO4.out.turn T5 (by decide))
        obtain ⟨b5, of5, cv5, a5, c5, rfl, hcv5, hr5, hh5⟩ := outs_one O5
        rw [HLL.out] at hr5 hh5
        have HH5 := Lib.hid hh5
        clear hh5 O5 T5 HK4 HW4 HU4 HR4 HO4
        go_wp2_with fail
        refine (sameints_yes HH5.out HR5.out (by rw [HLL.out]; omega)).mono ?_
        rintro e w6 ⟨rfl, m6, rfl⟩
        have hr6 : (w5.drewN m6).cell? ⟨b5, of5, none⟩ = some (.slice a5 p c5) := hr5
        have HK6 := Lib.hid (HK5.out.drewN m6)
        have HU6 := Lib.hid (HU5.out.drewN m6)
        have HR6 := Lib.hid (HR5.out.drewN m6)
        have HO6 := Lib.hid (HO5.out.turn (Turn.of_quiet o5 ⟨m6, rfl⟩) (fun h => h))
        have HH6 : Hid (Has (w5.drewN m6) (.slice a5 p c5) (ivs l)) := Lib.hid (HH5.out.drewN m6)
        clear hr5 HK5 HU5 HR5 HO5 HH5
        generalize w5.drewN m6 = w6 at *
        go_wp2_with fail
        have hbB := below_alloc w6 (.cells #[.slice a5 p c5] 22)
        refine (Fire_act 8 (by decide) (HU6.out.below 0 hbB) (ll_row 22 rfl HH6.out) (fun r hr z hz => by rw [List.mem_singleton.1 hr] at hz; exact HLF.out z hz) (by unfold Fits; omega) (by simp [insP, hd, hd1, HLL.out, hpi]) (unweave_reckP n m l)).mono ?_
        rintro e w7 ⟨ov7, o7, rfl, T7, -, O7⟩
        have T7' := ((Turn.of_below o5 0 hbB).mono (D := fun x => x = 3) (fun _ h => h.elim)).trans T7 (fun _ h => h)
        have HK7 := Lib.hid (HK6.out.turn T7' (by decide))
        have HR7 := Lib.hid (HR6.out.turn T7' (by decide))
        have HP7 := Lib.hid (HO6.out.turn T7' (by decide)).ll
        obtain ⟨ob, od, rfl⟩ := outs_ends O7
        rw [part_len] at O7 ⊢
        have HA7 := Lib.hid O7.ll
        clear O7 T7 T7' hbB HK6 HU6 HR6 HO6 HH6 hr6
        go_wp2_with fail
        go_loopw [19] (fun i wr => ∃ k : Nat, k ≤ n ∧ i = .int .i64 k ∧ ∃ q, wr = w7.drewN q) (fun i _ => n - (intOf i).toNat)
        case atStart => exact ⟨0, Nat.zero_le _, rfl, 0, rfl⟩
        case round =>
          obtain ⟨k, hk, rfl, q, rfl⟩ := hrel
          have HAq := Lib.hid (HA7.out.below (below_n (Below.refl _ _) q))
          have HPq := Lib.hid (HP7.out.below (below_n (Below.refl _ _) q))
          have HRq := Lib.hid (HR7.out.drewN q)
          have HKq := Lib.hid (HK7.out.drewN q)
          obtain ⟨wq, hwq⟩ : ∃ wq, w7.drewN q = wq := ⟨_, rfl⟩
          rw [hwq] at HAq HPq HRq HKq ⊢
          have HWQ := Lib.hid hwq
          clear hwq
          by_cases hlt : k < n
          · obtain ⟨bb, ofb, rfl, hcb, hrowb⟩ := HAq.out.at (by rw [part_len]; omega)
            obtain ⟨ba, ofa, rfl, hca, hrowa⟩ := HPq.out.at (by rw [part_len]; omega)
            obtain ⟨ab, cb, hrb, hhb⟩ := hrowb k (by rw [part_len]; omega)
            obtain ⟨aa, ca, hra, hha⟩ := hrowa k (by rw [part_len]; omega)
            rw [part_row_len n m l k hlt] at hrb hhb hra hha
            have hkp : k < l.length := by
              have := Nat.le_mul_of_pos_right n (show 0 < m by omega)
              have := HLN.out
              omega
            obtain ⟨bd, ofd, rfl, -, hcd, -, -, hcelld⟩ := Vals.at hhb (by rw [ivs_len, part_row_len n m l k hlt]; omega)
            have hx1 := hcelld 0 (by rw [ivs_len, part_row_len n m l k hlt]; omega)
            rw [ivs_get (by rw [part_row_len n m l k hlt]; omega), part_head n m l k hlt h3, Nat.add_zero] at hx1
            obtain ⟨be, ofe, ee, -, -, -, -, hcelle⟩ := Vals.at HRq.out (by rw [ivs_len]; omega)
            cases ee
            have hx2 := hcelle k (by rw [ivs_len]; exact hkp)
            rw [ivs_get hkp, Nat.zero_add] at hx2
            have hlti : (k : Int) < n := by omega
            have hcbi : (n : Int) ≤ od := by omega
            have hcai : (n : Int) ≤ oc := by omega
            have hkpi : (k : Int) < p := by have := HLL.out; omega
            have hcdi : (m : Int) ≤ cb := by omega
            have HHB := Lib.hid hhb
            have HHA := Lib.hid hha
            clear hcelld hcelle hrowa hrowb hhb hha
            generalize l[k]?.getD 0 = x at *
            have HLM := Lib.hid (part_row_len n m l k hlt)
            go_wp2
            go_quiet ((go_at_call 16; go_must (exact Calls.quiet_of (sameints_yes (HHB.out.drewN _) (HHA.out.drewN _) (by rw [HLM.out]; omega)))))
            go_wp2
            go_roundw
            case rel => exact ⟨k + 1, by omega, by go_num, q + _, by rw [← HWQ.out]; exact World.drewN_drewN _ _ _⟩
            case measure => simp [intOf]; omega
          · obtain rfl : k = n := by omega
            go_wp2_with fail
            refine (awake_yes _).mono ?_
            rintro e w8 ⟨rfl, hb8⟩
            have hb7 := HKq.out.below.trans (hb8.mono HKq.out.size)
            clear hb8
            go_wp2
            go_ret
            exact ⟨rfl, hb7⟩
      · go_wp2_with fail
        have hbA := below_alloc wr (.cells #[.slice (some ⟨w2.heap.size, 0, none⟩) p p] 22)
        refine (Fire_act 6 (by decide) (HUr.out.below 0 hbA) (ll_row 22 rfl HR.out.has) (fun r hr z hz => by rw [List.mem_singleton.1 hr] at hz; exact HLF.out z hz) (by unfold Fits; omega) (by simp [insP, hd, hd1, HLL.out, hpi]) (unweave_reckP n m l)).mono ?_
        rintro e w4 ⟨ov, o4, rfl, T4, U4, O4⟩
        have T4' := ((Turn.of_below o 0 hbA).mono (D := fun x => x = 3) (fun _ h => h.elim)).trans T4 (fun _ h => h)
        have HK4 := Lib.hid (HKr.out.turn T4' (by decide))
        have HW4 := Lib.hid (HWr.out.turn T4' (by decide) (by decide))
        have HR4 := Lib.hid (HR.out.turn T4' (by decide))
        have HU4 := Lib.hid U4
        obtain ⟨oa, oc, rfl⟩ := outs_ends O4
        rw [part_len] at O4 ⊢
        have HO4 := Lib.hid O4
        clear O4 T4 T4' U4 hbA HKr HWr HUr HR
        have hln : l.length = n * m := by rw [HLL.out, HP.out]
        have HLN := Lib.hid hln
        clear hln
        go_wp2_with fail
        refine (Fire_act 7 (by decide) HW4.out HO4.out.ll (part_fits n m l HLN.out HLF.out) (by unfold Fits; omega) (by rw [part_lens]; simp [insP, hd, hd1]) (weave_reckP n m _)).mono ?_
        rintro e w5 ⟨ov5, o5, rfl, T5, -, O5⟩
        rw [weave_part n m l HLN.out] at O5
        have HK5 := Lib.hid (HK4.out.turn T5 (by decide))
        have HU5 := Lib.hid (HU4.out.turn T5 (by decide) (by decide))
        have HR5 := Lib.hid (HR4.out.turn T5 (by decide))
        have HO5 := Lib.hid (HO4.out.turn T5 (by decide))
        obtain ⟨b5, of5, cv5, a5, c5, rfl, hcv5, hr5, hh5⟩ := outs_one O5
        rw [HLL.out] at hr5 hh5
        have HH5 := Lib.hid hh5
        clear hh5 O5 T5 HK4 HW4 HU4 HR4 HO4
        go_wp2_with fail
        refine (sameints_yes HH5.out HR5.out (by rw [HLL.out]; omega)).mono ?_
        rintro e w6 ⟨rfl, m6, rfl⟩
        have hr6 : (w5.drewN m6).cell? ⟨b5, of5, none⟩ = some (.slice a5 p c5) := hr5
        have HK6 := Lib.hid (HK5.out.drewN m6)
        have HU6 := Lib.hid (HU5.out.drewN m6)
        have HR6 := Lib.hid (HR5.out.drewN m6)
        have HO6 := Lib.hid (HO5.out.turn (Turn.of_quiet o5 ⟨m6, rfl⟩) (fun h => h))
        have HH6 : Hid (Has (w5.drewN m6) (.slice a5 p c5) (ivs l)) := Lib.hid (HH5.out.drewN m6)
        clear hr5 HK5 HU5 HR5 HO5 HH5
        generalize w5.drewN m6 = w6 at *
        go_wp2_with fail
        have hbB := below_alloc w6 (.cells #[.slice a5 p c5] 22)
        refine (Fire_act 8 (by decide) (HU6.out.below 0 hbB) (ll_row 22 rfl HH6.out) (fun r hr z hz => by rw [List.mem_singleton.1 hr] at hz; exact HLF.out z hz) (by unfold Fits; omega) (by simp [insP, hd, hd1, HLL.out, hpi]) (unweave_reckP n m l)).mono ?_
        rintro e w7 ⟨ov7, o7, rfl, T7, -, O7⟩
        have T7' := ((Turn.of_below o5 0 hbB).mono (D := fun x => x = 3) (fun _ h => h.elim)).trans T7 (fun _ h => h)
        have HK7 := Lib.hid (HK6.out.turn T7' (by decide))
        have HR7 := Lib.hid (HR6.out.turn T7' (by decide))
        have HP7 := Lib.hid (HO6.out.turn T7' (by decide)).ll
        obtain ⟨ob, od, rfl⟩ := outs_ends O7
        rw [part_len] at O7 ⊢
        have HA7 := Lib.hid O7.ll
        clear O7 T7 T7' hbB HK6 HU6 HR6 HO6 HH6 hr6
        go_wp2_with fail
        go_loopw [19] (fun i wr => ∃ k : Nat, k ≤ n ∧ i = .int .i64 k ∧ ∃ q, wr = w7.drewN q) (fun i _ => n - (intOf i).toNat)
        case atStart => exact ⟨0, Nat.zero_le _, rfl, 0, rfl⟩
        case round =>
          obtain ⟨k, hk, rfl, q, rfl⟩ := hrel
          have HAq := Lib.hid (HA7.out.below (below_n (Below.refl _ _) q))
          have HPq := Lib.hid (HP7.out.below (below_n (Below.refl _ _) q))
          have HRq := Lib.hid (HR7.out.drewN q)
          have HKq := Lib.hid (HK7.out.drewN q)
          obtain ⟨wq, hwq⟩ : ∃ wq, w7.drewN q = wq := ⟨_, rfl⟩
          rw [hwq] at HAq HPq HRq HKq ⊢
          have HWQ := Lib.hid hwq
          clear hwq
          by_cases hlt : k < n
          · obtain ⟨bb, ofb, rfl, hcb, hrowb⟩ := HAq.out.at (by rw [part_len]; omega)
            obtain ⟨ba, ofa, rfl, hca, hrowa⟩ := HPq.out.at (by rw [part_len]; omega)
            obtain ⟨ab, cb, hrb, hhb⟩ := hrowb k (by rw [part_len]; omega)
            obtain ⟨aa, ca, hra, hha⟩ := hrowa k (by rw [part_len]; omega)
            rw [part_row_len n m l k hlt] at hrb hhb hra hha
            have hkp : k < l.length := by
              have := Nat.le_mul_of_pos_right n (show 0 < m by omega)
              have := HLN.out
              omega
            obtain ⟨bd, ofd, rfl, -, hcd, -, -, hcelld⟩ := Vals.at hhb (by rw [ivs_len, part_row_len n m l k hlt]; omega)
            have hx1 := hcelld 0 (by rw [ivs_len, part_row_len n m l k hlt]; omega)
            rw [ivs_get (by rw [part_row_len n m l k hlt]; omega), part_head n m l k hlt h3, Nat.add_zero] at hx1
            obtain ⟨be, ofe, ee, -, -, -, -, hcelle⟩ := Vals.at HRq.out (by rw [ivs_len]; omega)
            cases ee
            have hx2 := hcelle k (by rw [ivs_len]; exact hkp)
            rw [ivs_get hkp, Nat.zero_add] at hx2
            have hlti : (k : Int) < n := by omega
            have hcbi : (n : Int) ≤ od := by omega
            have hcai : (n : Int) ≤ oc := by omega
            have hkpi : (k : Int) < p := by have := HLL.out; omega
            have hcdi : (m : Int) ≤ cb := by omega
            have HHB := Lib.hid hhb
            have HHA := Lib.hid hha
            clear hcelld hcelle hrowa hrowb hhb hha
            generalize l[k]?.getD 0 = x at *
            have HLM := Lib.hid (part_row_len n m l k hlt)
            go_wp2
            go_quiet ((go_at_call 16; go_must (exact Calls.quiet_of (sameints_yes (HHB.out.drewN _) (HHA.out.drewN _) (by rw [HLM.out]; omega)))))
            go_wp2
            go_roundw
            case rel => exact ⟨k + 1, by omega, by go_num, q + _, by rw [← HWQ.out]; exact World.drewN_drewN _ _ _⟩
            case measure => simp [intOf]; omega
          · obtain rfl : k = n := by omega
            go_wp2_with fail
            refine (awake_yes _).mono ?_
            rintro e w8 ⟨rfl, hb8⟩
            have hb7 := HKq.out.below.trans (hb8.mono HKq.out.size)
            clear hb8
            go_wp2
            go_ret
            exact ⟨rfl, hb7⟩

theorem weaves_all (w : World) (n m : Int) (v : Value) (xs : List Int) (hx : Has w v (ivs xs)) (hf : ∀ x ∈ xs, Fits x) (hl : xs.length ≤ 17600000000000) : Calls Try.prog 4 #[.int .i64 n, .int .i64 m, v] w fun e w' => e = .returned (.bool true) ∧ Below w.heap.size w w' := by
  by_cases h : goodP 4 [n, m]
  · have hp : pairP [n, m] := by simpa [goodP] using h
    obtain ⟨h0, h1, h2, h3⟩ := hp
    simp only [hd, hd1, List.getElem?_cons_zero, List.getElem?_cons_succ, Option.getD_some] at h1 h2 h3
    obtain ⟨u, rfl⟩ : ∃ u : Nat, n = u := ⟨n.toNat, by omega⟩
    obtain ⟨k, rfl⟩ : ∃ u : Nat, m = u := ⟨m.toNat, by omega⟩
    exact weaves_yes w u k v xs (by omega) (by omega) (by omega) (by omega) (by exact_mod_cast h3) hx hf hl
  · exact weaves_no w n m v h
end Go.Proofs.Ytknmiiajeafjpaa
