/- Names: the walk of the cursor's while. -/
import Derived.Test.YtaholpfikcdhbaaDynNilZ5
import Derived.Deep.QuietTactic
import Derived.BigQuiet
import Derived.Test.YtaholpfikcdhbaaDynNilZ2
import Derived.Carry
import Derived.Test.YtaholpfikcdhbaaDynNilZ1
namespace Go.Proofs.Ytaholpfikcdhbaa
open Go.RowKit

theorem Cur.drewN {w : World} {c : Nat} {s : ByteArray} {k : Nat} (h : Cur w c s k) (m : Nat) : Cur (w.drewN m) c s k := h
/-- the cursor stands at k, all before it was inside -/
def Stand (w wr : World) (c : Nat) (s : ByteArray) (k : Nat) : Prop := Cur wr c s k ∧ k ≤ s.size ∧ (∀ i, i < k → insideP (byteP s i) = true) ∧ Mods (fun b => b = c) w wr

theorem stand_next {s : ByteArray} {k : Nat} (h : ∀ i, i < k → insideP (byteP s i) = true) (hx : insideP (byteP s k) = true) : ∀ i, i < k + 1 → insideP (byteP s i) = true := fun i hi => by
  by_cases e : i = k
  · rw [e]; exact hx
  · exact h i (by omega)
theorem meas_next {n k : Nat} (h : k < n) : n - (((k + 1 : Nat) : Int)).toNat < n - ((k : Int)).toNat := by omega
set_option maxHeartbeats 1000000 in
theorem while_any (w : World) (c : Nat) (s : ByteArray) (hs : s.size ≤ 4611686018427387904) (h : Cur w c s 0) : Calls Try.prog 48 #[.pointer (some ⟨c, 0, none⟩), .func (.func 49) #[] #[]] w fun e w' =>
    ∃ m, e = .returned (.string (s.extract 0 m)) ∧ m ≤ s.size ∧ (∀ i, i < m → insideP (byteP s i) = true) ∧ (m < s.size → insideP (byteP s m) = false) ∧ Mods (fun b => b = c) w w' := by
  have q0 := cells_row w _ h 0 _ rfl
  have q1 := cells_row w _ h 1 _ rfl
  have HC := Lib.hid h
  have HS := Lib.hid hs
  clear h hs
  go_enter Try.func48, Try.ntmps48
  go_wp2_with fail
  clear q0 q1
  go_loopw [24] (fun _ wr => ∃ k, Stand w wr c s k) (fun _ wr => s.size - (match wr.cell? ⟨c, 1, none⟩ with | some (.int _ k) => k.toNat | _ => 0))
  case atStart => exact ⟨0, HC.out, Nat.zero_le _, fun i hi => absurd hi (by omega), Mods.refl _ _⟩
  case round =>
    obtain ⟨k, hcur, hk, hin, hmod⟩ := hrel
    have HCu := Lib.hid hcur
    have HIN := Lib.hid hin
    have HM := Lib.hid hmod
    have q0 := cells_row wr _ hcur 0 _ rfl
    have q1 := cells_row wr _ hcur 1 _ rfl
    have f1 := frozen_of_block hcur 1
    clear hcur hin hmod
    by_cases hlt : k < s.size
    · have hlti : (k : Int) < s.size := by omega
      have hbt : byteP s k = ((s[k]'hlt).toNat : Int) := dif_pos hlt
      obtain ⟨x, hx⟩ : ∃ x, insideP (byteP s k) = x := ⟨_, rfl⟩
      have HX := Lib.hid hx
      have HBT := Lib.hid hbt
      have hsz := HS.out
      clear hx hbt
      go_wp2_with fail
      refine wp_region_soft (fun w' => Cur w' c s k ∧ ∃ m, w' = wr.drewN m) [0, 1, 2, 3, 4, 5, 6, 7, 8, 9, 10, 11, 12, 13, 14] [] (by kernel_rfl) (by kernel_rfl) rfl ⟨HCu.out, 1, rfl⟩ ?_
      simp only [pickOps, List.flatMap_cons, List.flatMap_nil, List.drop_succ_cons, List.drop_zero, List.take_succ_cons, List.take_zero, List.cons_append, List.nil_append, List.append_nil]
      repeat (first
        | (refine wpHead_skip (by rfl) ?_; (try simp only [Act.put, List.setIfInBounds_toArray, List.set_cons_zero, List.set_cons_succ]))
        | (refine wpHead_val ?_ (by rfl) ?_ ?_; rotate_left; (intro wz hz; (try dsimp only at hz); (first | (go_simp; done) | (go_simp; with_reducible rfl))); (try simp only [Act.put, List.setIfInBounds_toArray, List.set_cons_zero, List.set_cons_succ])))
      refine wpHead_call (.bool true) 50 #[.pointer (some ⟨c, 0, none⟩)] (by rfl) (fun wz => by go_simp) (fun wz hz => ?_) ?_
      · obtain ⟨hc, m0, rfl⟩ := hz
        refine (more_any _ c s k hc).mono ?_
        rintro e wy ⟨rfl, m, rfl⟩
        exact ⟨by rw [decide_eq_true hlt], hc, m0 + m, World.drewN_drewN _ _ _⟩
      simp only [Act.put, List.setIfInBounds_toArray, List.set_cons_zero, List.set_cons_succ]
      repeat (first
        | (refine wpHead_skip (by rfl) ?_; (try simp only [Act.put, List.setIfInBounds_toArray, List.set_cons_zero, List.set_cons_succ]))
        | (refine wpHead_val ?_ (by rfl) ?_ ?_; rotate_left; (intro wz hz; have q0 := cells_row wz _ hz.1 0 _ rfl; have q1 := cells_row wz _ hz.1 1 _ rfl; (first | (go_simp; done) | (go_simp; with_reducible rfl))); (try simp only [Act.put, List.setIfInBounds_toArray, List.set_cons_zero, List.set_cons_succ])))
      refine wpHead_call (.bool x) 49 #[.int .u8 ((s[k]'hlt).toNat : Int)] (by rfl) (fun wz => by go_simp) (fun wz hz => ?_) ?_
      · refine (inside_any _ _).mono ?_
        rintro e wy ⟨rfl, rfl⟩
        exact ⟨by rw [← HBT.out, HX.out], hz⟩
      simp only [Act.put, List.setIfInBounds_toArray, List.set_cons_zero, List.set_cons_succ]
      cases x with
      | true =>
        repeat (first
          | (refine wpHead_skip (by rfl) ?_; (try simp only [Act.put, List.setIfInBounds_toArray, List.set_cons_zero, List.set_cons_succ]))
          | (refine wpHead_val ?_ (by rfl) ?_ ?_; rotate_left; (intro wz hz; (try dsimp only at hz); (first | (go_simp; done) | (go_simp; with_reducible rfl))); (try simp only [Act.put, List.setIfInBounds_toArray, List.set_cons_zero, List.set_cons_succ])))
        refine wpHead_nil ?_
        intro w' hS
        obtain ⟨hc2, m0, rfl⟩ := hS
        have HC2 := Lib.hid hc2
        have q0 := cells_row _ _ hc2 0 _ rfl
        have q1 := cells_row _ _ hc2 1 _ rfl
        have f1 := frozen_of_block hc2 1
        clear hc2
        go_wp2
        have hc3 : Cur ((wr.drewN m0).setCell ⟨c, 1, none⟩ (.int .i64 ((k : Int) + 1))) c s (k + 1) := block_setCell HC2.out 1 (.int .i64 ((k : Int) + 1))
        have q1' := cells_row _ _ hc3 1 _ rfl
        have HC3 := Lib.hid hc3
        clear hc3
        go_roundw
        case rel => exact ⟨k + 1, HC3.out, hlt, stand_next HIN.out HX.out, (HM.out.drewN m0).setCell (p := ⟨c, 1, none⟩) (fun _ => rfl) _⟩
        case measure =>
          have e1 := cells_row _ _ HCu.out 1 _ rfl
          rw [q1', e1]
          exact meas_next hlt
      | false =>
        repeat (first
          | (refine wpHead_skip (by rfl) ?_; (try simp only [Act.put, List.setIfInBounds_toArray, List.set_cons_zero, List.set_cons_succ]))
          | (refine wpHead_val ?_ (by rfl) ?_ ?_; rotate_left; (intro wz hz; (try dsimp only at hz); (first | (go_simp; done) | (go_simp; with_reducible rfl))); (try simp only [Act.put, List.setIfInBounds_toArray, List.set_cons_zero, List.set_cons_succ])))
        refine wpHead_nil ?_
        intro w' hS
        obtain ⟨hc2, m0, rfl⟩ := hS
        have q0 := cells_row _ _ hc2 0 _ rfl
        have q1 := cells_row _ _ hc2 1 _ rfl
        go_wp2
        go_quiet (fail)
        go_wp2
        go_ret
        exact ⟨k, by first | rfl | simp, hk, HIN.out, fun _ => HX.out, ((HM.out.drewN m0).drewN _)⟩
    · obtain rfl : k = s.size := by omega
      go_wp2_with fail
      refine wp_region_soft (fun w' => Cur w' c s s.size ∧ ∃ m, w' = wr.drewN m) [0, 1, 2, 3, 4, 5, 6, 7, 8, 9, 10, 11, 12, 13, 14] [] (by kernel_rfl) (by kernel_rfl) rfl ⟨HCu.out, 1, rfl⟩ ?_
      simp only [pickOps, List.flatMap_cons, List.flatMap_nil, List.drop_succ_cons, List.drop_zero, List.take_succ_cons, List.take_zero, List.cons_append, List.nil_append, List.append_nil]
      repeat (first
        | (refine wpHead_skip (by rfl) ?_; (try simp only [Act.put, List.setIfInBounds_toArray, List.set_cons_zero, List.set_cons_succ]))
        | (refine wpHead_val ?_ (by rfl) ?_ ?_; rotate_left; (intro wz hz; (try dsimp only at hz); (first | (go_simp; done) | (go_simp; with_reducible rfl))); (try simp only [Act.put, List.setIfInBounds_toArray, List.set_cons_zero, List.set_cons_succ])))
      refine wpHead_call (.bool false) 50 #[.pointer (some ⟨c, 0, none⟩)] (by rfl) (fun wz => by go_simp) (fun wz hz => ?_) ?_
      · obtain ⟨hc, m0, rfl⟩ := hz
        refine (more_any _ c s s.size hc).mono ?_
        rintro e wy ⟨rfl, m, rfl⟩
        exact ⟨by rw [decide_eq_false (Nat.lt_irrefl _)], hc, m0 + m, World.drewN_drewN _ _ _⟩
      simp only [Act.put, List.setIfInBounds_toArray, List.set_cons_zero, List.set_cons_succ]
      repeat (first
        | (refine wpHead_skip (by rfl) ?_; (try simp only [Act.put, List.setIfInBounds_toArray, List.set_cons_zero, List.set_cons_succ]))
        | (refine wpHead_val ?_ (by rfl) ?_ ?_; rotate_left; (intro wz hz; (try dsimp only at hz); (first | (go_simp; done) | (go_simp; with_reducible rfl))); (try simp only [Act.put, List.setIfInBounds_toArray, List.set_cons_zero, List.set_cons_succ])))
      refine wpHead_nil ?_
      intro w' hS
      obtain ⟨hc2, m0, rfl⟩ := hS
      have q0 := cells_row _ _ hc2 0 _ rfl
      have q1 := cells_row _ _ hc2 1 _ rfl
      go_wp2
      go_quiet (fail)
      go_wp2
      go_ret
      exact ⟨s.size, by first | rfl | simp, Nat.le_refl _, HIN.out, fun h => absurd h (Nat.lt_irrefl _), ((HM.out.drewN m0).drewN _)⟩
end Go.Proofs.Ytaholpfikcdhbaa

/- Names: lex.Name, whole. -/
namespace Go.Proofs.Ytaholpfikcdhbaa
open Go.RowKit

theorem all_inside {s : ByteArray} (h : ∀ i, i < s.size → insideP (byteP s i) = true) : (List.range s.size).all (fun i => insideP (byteP s i)) = true := by
  rw [List.all_eq_true]
  exact fun i hi => h i (List.mem_range.1 hi)
theorem not_inside {s : ByteArray} {m : Nat} (hm : m < s.size) (h : insideP (byteP s m) = false) : (List.range s.size).all (fun i => insideP (byteP s i)) = false := by
  rw [List.all_eq_false]
  exact ⟨m, List.mem_range.2 hm, by rw [h]; simp⟩
theorem cur_new (w : World) (s : ByteArray) : Cur (w.alloc (.cells #[.string s, .int .i64 0] 146)) w.heap.size s 0 := heap_alloc_new w _
/-- what is turned lies in the new block -/
theorem below_cur {w w1 w2 : World} (h : w.heap.size < w1.heap.size) (hb : Below w.heap.size w w1) (hm : Mods (fun b => b = w.heap.size) w1 w2) : Below w.heap.size w w2 := hb.trans (hm.below (by omega) (fun k hk e => by omega))

set_option maxHeartbeats 1000000 in
theorem name_any (w : World) (s : ByteArray) (hs : s.size ≤ 4611686018427387904) : Calls Try.prog 43 #[.string s] w fun e w' => e = .returned (.bool (nameP s)) ∧ Below w.heap.size w w' := by
  obtain ⟨N, hN⟩ : ∃ N, nameP s = N := ⟨_, rfl⟩
  rw [hN]
  have HN := Lib.hid hN
  have HS := Lib.hid hs
  clear hN hs
  go_enter Try.func43, Try.ntmps43
  go_wp2_with fail
  have hC := cur_new w s
  have hb1 := (below_alloc w (.cells #[.string s, .int .i64 0] 146))
  refine (peek_any _ _ s hC).mono ?_
  rintro e w1 ⟨rfl, m1, rfl⟩
  go_wp2_with fail
  refine (letter_any _ _).mono ?_
  rintro e _ ⟨rfl, rfl⟩
  obtain ⟨x, hx⟩ : ∃ x, letterP (byteP s 0) = x := ⟨_, rfl⟩
  rw [hx]
  have HX := Lib.hid hx
  clear hx
  cases x with
  | false =>
    have e : N = false := by rw [← HN.out, nameP, HX.out]; rfl
    subst e
    go_wp2
    go_ret
    exact ⟨rfl, below_dr hb1⟩
  | true =>
    go_wp2_with fail
    refine (while_any _ _ s HS.out (hC.drewN _)).mono ?_
    rintro e w2 ⟨m, rfl, hm, hin, hout, hmod⟩
    have hb2 : Below w.heap.size w w2 := below_cur (by simp) (below_dr (n := m1) hb1) hmod
    have HB2 := Lib.hid hb2
    have hlen : (s.extract 0 m).size = m := by rw [ByteArray.size_extract]; omega
    clear hb2 hmod hb1 hC
    by_cases hms : m < s.size
    · have e : N = false := by rw [← HN.out, nameP, not_inside hms (hout hms)]; simp
      subst e
      have hmi : ¬ (m : Int) = s.size := by omega
      clear hin hout
      go_wp2
      go_ret
      exact ⟨by simp, HB2.out⟩
    · obtain rfl : m = s.size := by omega
      have hall := all_inside hin
      have hself : s.extract 0 s.size = s := by simp
      rw [hself]
      clear hin hout hself hlen
      by_cases h16 : s.size ≤ 16
      · have e : N = true := by rw [← HN.out, nameP, HX.out, hall, decide_eq_true h16]; rfl
        subst e
        have h16i : (s.size : Int) ≤ 16 := by omega
        clear hall
        go_wp2
        go_ret
        exact ⟨by simp, HB2.out⟩
      · have e : N = false := by rw [← HN.out, nameP, HX.out, hall, decide_eq_false h16]; rfl
        subst e
        have h16i : ¬ (s.size : Int) ≤ 16 := by omega
        clear hall
        go_wp2
        go_ret
        exact ⟨by simp; exact h16i, HB2.out⟩
end Go.Proofs.Ytaholpfikcdhbaa

/- The checker's name. -/
namespace Go.Proofs.Ytaholpfikcdhbaa
open Go.RowKit
open Go.Maps (Keyed IsMap Tidy)

theorem lt_max {n m : Nat} (h : n ≤ m) (hm : m ≤ 1000000) : n < maxLen := by unfold maxLen; omega
theorem size_max {n : Nat} (h : n ≤ 4611686018427387904) : n ≤ maxLen := by unfold maxLen; omega
set_option maxRecDepth 100000 in
set_option maxHeartbeats 1000000 in
theorem gname_any (w : World) (o : Col) (C B : Nat) (X : ChkV) (k : Chk) (s : ByteArray) (hs : s.size ≤ 4611686018427387904) (hk : k.seen.length ≤ 1000000) (h : ChkAt w o C B X k) :
    Calls Try.prog 44 #[.pointer (some ⟨C, 0, none⟩), .string s] w fun e w' => e = .returned (.int .i64 (nameE k.seen s)) ∧ ∃ o', Turn o o' (fun x => x = 2) w w' ∧ (nameE k.seen s = 0 → ChkAt w' o' C B X ⟨k.seen ++ [s], k.ins, k.outs⟩) := by
  obtain ⟨N, hN⟩ : ∃ N, nameE k.seen s = N := ⟨_, rfl⟩
  rw [hN]
  have HN := Lib.hid hN
  have HS := Lib.hid hs
  have HK := Lib.hid hk
  have HC := Lib.hid h
  clear hN hs hk h
  go_enter Try.func44, Try.ntmps44
  go_wp2_with fail
  refine (name_any _ s HS.out).mono ?_
  rintro e w1 ⟨rfl, hb1⟩
  have HB1 := Lib.hid hb1
  have HC1 := Lib.hid (HC.out.turn (Turn.of_below o 0 hb1) (fun _ _ h => h))
  obtain ⟨x, hx⟩ : ∃ x, nameP s = x := ⟨_, rfl⟩
  rw [hx]
  have HX := Lib.hid hx
  clear hx hb1 HC
  cases x with
  | false =>
    have e : N = 82 := by rw [← HN.out, nameE, HX.out]; rfl
    subst e
    go_wp2
    go_ret
    exact ⟨rfl, _, (Turn.of_below o 0 HB1.out).mono (fun _ h => h.elim), fun h => by cases h⟩
  | true =>
    obtain ⟨D, n, gI, gO, h1, h2, h3, h4, h5, h6, h7⟩ := HC1.out.st
    have q5 := h1.cell 5 (.map (some B)) rfl
    have H1 := Lib.hid h1
    have H2 := Lib.hid h2
    have H4 := Lib.hid h4
    have H5 := Lib.hid h5
    have H6 := Lib.hid h6
    have H7 := Lib.hid h7
    have H3 := Lib.hid h3
    clear h1 h2 h3 h4 h5 h6 h7
    have hml : s.size ≤ maxLen := size_max HS.out
    go_wp2_with (at_lookup; refine stop_here ?_)
    refine go_on ?_
    refine wpList_lookup_own_int _ rfl _ _ 103 rfl 9 3 .i64 smap_law Try.underlying103 Try.underlying3 (int_zero _) B n D rfl H2.out _ _ rfl (WideMaps.keyOf_string_mk Try.underlying9 hml) ?_
    intro c hat hwc
    have hc := H4.out.2 s
    rw [hat] at hc
    obtain ⟨y, hy⟩ : ∃ y, k.seen.any (fun x => decide (x = s)) = y := ⟨_, rfl⟩
    rw [hy] at hc
    have HY := Lib.hid hy
    clear hat hwc hy
    cases y with
    | true =>
      obtain rfl : c = 1 := by injection hc with h; injection h with _ h
      have e : N = 83 := by rw [← HN.out, nameE, HX.out, HY.out]; rfl
      subst e
      clear hc
      go_wp2
      go_ret
      exact ⟨rfl, _, (Turn.of_below o 0 HB1.out).mono (fun _ h => h.elim), fun h => by cases h⟩
    | false =>
      obtain rfl : c = 0 := by injection hc with h; injection h with _ h
      have e : N = 0 := by rw [← HN.out, nameE, HX.out, HY.out]; rfl
      subst e
      clear hc
      go_wp2_with (at_mapUpdate; refine stop_here ?_)
      refine go_on ?_
      refine wpList_mapUpdate_own _ rfl _ _ _ 103 rfl 9 3 smap_law Try.underlying103 _ B n D rfl H2.out (lt_max H5.out HK.out) _ _ _ rfl rfl (WideMaps.keyOf_string_mk Try.underlying9 hml) _ [] (plainElem_int Try.underlying3 (by decide)) ?_
      intro w2 hown2 hg2
      have T2 : Turn (ext o w.heap.size 0) (ext (ext o w.heap.size 0) w1.heap.size 0) (fun x => x = 2) w1 w2 := Turn.of_mods _ 0 ((Mods.refl (fun b => b = B) w1).grown hg2 (fun b hb _ => (Option.some.inj hb).symm)) (fun b _ e => by rw [e]; exact H3.out)
      have HT := Lib.hid (((Turn.of_below o 0 HB1.out).mono (D := fun x => x = 2) (fun _ h => h.elim)).trans T2 (fun x e => e))
      have hB2 : ext (ext o w.heap.size 0) w1.heap.size 0 B = 2 := (ext_old H2.out.lt).trans H3.out
      have HN2 : Hid (ChkAt w2 (ext (ext o w.heap.size 0) w1.heap.size 0) C B X ⟨k.seen ++ [s], k.ins, k.outs⟩) := Lib.hid ⟨_, _, gI, gO, H1.out.turn T2 (by decide), hown2, hB2, seen_next H4.out s, by have := H5.out; simp; omega, H6.out.turn T2 (by decide) (by decide), H7.out.turn T2 (by decide) (by decide)⟩
      clear hown2 hg2 T2 hB2
      go_wp2
      go_ret
      exact ⟨rfl, _, HT.out, HN2.out⟩
end Go.Proofs.Ytaholpfikcdhbaa

/- The checker's take. -/
namespace Go.Proofs.Ytaholpfikcdhbaa
open Go.RowKit

theorem bvs_get {l : List Bool} {k : Nat} (h : k < l.length) : (bvs l)[k]? = some (.bool (l[k]?.getD false)) := by simp [bvs, h]
theorem bvs_set (l : List Bool) (k : Nat) (b : Bool) : (bvs l).toArray.setIfInBounds k (.bool b) = (bvs (l.set k b)).toArray := by simp [bvs, List.map_set]

/-- where a row lies -/
theorem Side.row {w : World} {o : Col} {c d : Nat} {ao : Option Addr} {n cap : Nat} {side : List (List Bool)} {gs : List Nat} (h : Side w o c d (.slice ao n cap) side gs) {a : Nat} (ha : a < side.length) :
    n = side.length ∧ n ≤ cap ∧ ∃ g, ao = some ⟨g, 0, none⟩ ∧ w.cell? ⟨g, a, none⟩ = some (.slice (some ⟨gs[a]?.getD 0, 0, none⟩) (side[a]?.getD []).length (side[a]?.getD []).length) := by
  obtain ⟨h1, h2, g, _, h4, h5, _, _⟩ := owns_cell h.own.1 (by simp; omega)
  exact ⟨h1, by omega, g, h4, h5 a _ (by simp [ha])⟩

/-- a place is taken -/
theorem Side.take {w : World} {o : Col} {c d : Nat} {v : Value} {side : List (List Bool)} {gs : List Nat} (h : Side w o c d v side gs) (hcd : c ≠ d) {a p : Nat} (ha : a < side.length) :
    Turn o o (fun x => x = d) w (w.setCell ⟨gs[a]?.getD 0, p, none⟩ (.bool true)) ∧ Side (w.setCell ⟨gs[a]?.getD 0, p, none⟩ (.bool true)) o c d v (side.set a ((side[a]?.getD []).set p true)) gs := by
  have hb := h.rows a ha
  obtain ⟨s1, T⟩ := hb.set p (.bool true)
  rw [bvs_set] at s1
  refine ⟨T, ⟨by rw [List.length_set]; exact h.len, ?_, fun k hk => ?_, fun i j hij hj => h.apart i j hij (by simpa using hj)⟩⟩
  · have h1 := h.own.turn T (fun e => hcd e)
    rw [List.length_set]
    have e : ((List.range side.length).map fun k => Value.slice (some ⟨gs[k]?.getD 0, 0, none⟩) ((side.set a ((side[a]?.getD []).set p true))[k]?.getD []).length ((side.set a ((side[a]?.getD []).set p true))[k]?.getD []).length) = (List.range side.length).map fun k => .slice (some ⟨gs[k]?.getD 0, 0, none⟩) (side[k]?.getD []).length (side[k]?.getD []).length := by
      refine List.map_congr_left fun k _ => ?_
      have e2 : ((side.set a ((side[a]?.getD []).set p true))[k]?.getD []).length = (side[k]?.getD []).length := by
        by_cases e : a = k
        · subst e
          simp [ha]
        · rw [List.getElem?_set_ne e]
      rw [e2]
    rw [e]
    exact h1
  · rw [List.length_set] at hk
    by_cases e : a = k
    · subst e
      rw [List.getElem?_set_self ha]
      exact s1
    · rw [List.getElem?_set_ne e]
      have hr := h.rows k hk
      have hne : gs[k]?.getD 0 ≠ gs[a]?.getD 0 := by
        rcases Nat.lt_or_gt_of_ne e with h1 | h1
        · exact (h.apart a k h1 hk).symm
        · exact h.apart k a h1 ha
      exact ⟨block_setCell_ne hr.1 hne _, hr.2⟩

theorem side1_nat (side : List (List Bool)) (a : Nat) : side1 side (a : Int) = side[a]?.getD [] := by simp [side1]

set_option maxRecDepth 100000 in
set_option maxHeartbeats 1000000 in
theorem gtake_any (w : World) (o : Col) (c d : Nat) (v : Value) (side : List (List Bool)) (gs : List Nat) (a p : Int) (hcd : c ≠ d) (h : Side w o c d v side gs) :
    Calls Try.prog 45 #[v, .int .i64 a, .int .i64 p] w fun e w' => e = .returned (.int .i64 (takeE side a p)) ∧ Turn o o (fun x => x = d) w w' ∧ (takeE side a p = 0 → Side w' o c d v (takeS side a p) gs) := by
  obtain ⟨ao, cap, rfl⟩ := h.own.slice
  obtain ⟨N, hN⟩ : ∃ N, takeE side a p = N := ⟨_, rfl⟩
  rw [hN]
  have HN := Lib.hid hN
  have HS := Lib.hid h
  clear hN h
  have hT0 := Lib.hid (Turn.refl o (fun x => x = d) w)
  by_cases h1 : a < 0
  · have e : N = 84 := by rw [← HN.out, takeE, if_pos (.inl h1)]
    subst e
    go_enter Try.func45, Try.ntmps45
    go_wp2
    go_ret
    exact ⟨rfl, by first | exact ⟨hT0.out, fun h => by cases h⟩ | exact hT0.out⟩
  obtain ⟨n, rfl⟩ : ∃ n : Nat, a = n := ⟨a.toNat, by omega⟩
  by_cases h2 : side.length ≤ n
  · have h2i : (side.length : Int) ≤ n := by omega
    have e : N = 84 := by rw [← HN.out, takeE, if_pos (.inr h2i)]
    subst e
    go_enter Try.func45, Try.ntmps45
    go_wp2
    go_ret
    exact ⟨rfl, by first | exact ⟨hT0.out, fun h => by cases h⟩ | exact hT0.out⟩
  have hlt : n < side.length := by omega
  have hlti : (n : Int) < side.length := by omega
  obtain ⟨_, hcap, g, rfl, hc⟩ := HS.out.row hlt
  have hcapi : (side.length : Int) ≤ cap := by omega
  have hE : N = if p < 0 ∨ ((side[n]?.getD []).length : Int) ≤ p then 85 else if (side[n]?.getD [])[p.toNat]?.getD false then 86 else 0 := by
    rw [← HN.out, takeE, if_neg (by omega), side1_nat]
  have HE := Lib.hid hE
  obtain ⟨row, hrow⟩ : ∃ row, side[n]?.getD [] = row := ⟨_, rfl⟩
  rw [hrow] at HE hc
  have hblk := HS.out.rows n hlt
  rw [hrow] at hblk
  have HR := Lib.hid hrow
  clear hE hrow
  by_cases h3 : p < 0
  · have e : N = 85 := by rw [HE.out, if_pos (.inl h3)]
    subst e
    go_enter Try.func45, Try.ntmps45
    go_wp2
    go_ret
    exact ⟨rfl, by first | exact ⟨hT0.out, fun h => by cases h⟩ | exact hT0.out⟩
  obtain ⟨q, rfl⟩ : ∃ q : Nat, p = q := ⟨p.toNat, by omega⟩
  by_cases h4 : row.length ≤ q
  · have h4i : (row.length : Int) ≤ q := by omega
    have e : N = 85 := by rw [HE.out, if_pos (.inr h4i)]
    subst e
    go_enter Try.func45, Try.ntmps45
    go_wp2
    go_ret
    exact ⟨rfl, by first | exact ⟨hT0.out, fun h => by cases h⟩ | exact hT0.out⟩
  have h4i : (q : Int) < row.length := by omega
  have hq := hblk.cell q (.bool (row[q]?.getD false)) (by rw [List.getElem?_toArray]; exact bvs_get (by omega))
  have hfz := hblk.frozen q
  have hE2 : N = if row[q]?.getD false then 86 else 0 := by rw [HE.out, if_neg (by omega)]; rfl
  have HE2 := Lib.hid hE2
  clear hE2 hblk HE
  obtain ⟨b, hb⟩ : ∃ b, row[q]?.getD false = b := ⟨_, rfl⟩
  rw [hb] at hq HE2
  clear hb
  cases b with
  | true =>
    have e : N = 86 := HE2.out
    subst e
    go_enter Try.func45, Try.ntmps45
    go_wp2
    go_ret
    exact ⟨rfl, by first | exact ⟨hT0.out, fun h => by cases h⟩ | exact hT0.out⟩
  | false =>
    have e : N = 0 := HE2.out
    subst e
    obtain ⟨t1, t2⟩ := HS.out.take hcd (a := n) (p := q) hlt
    have T1 := Lib.hid t1
    have T2 : Hid (Side (w.setCell ⟨gs[n]?.getD 0, q, none⟩ (.bool true)) o c d (.slice (some ⟨g, 0, none⟩) side.length cap) (takeS side (n : Int) (q : Int)) gs) := Lib.hid (by simpa [takeS, side1_nat] using t2)
    clear t1 t2
    go_enter Try.func45, Try.ntmps45
    go_wp2
    go_ret
    exact ⟨rfl, T1.out, by first | exact T2.out | exact fun _ => T2.out⟩
end Go.Proofs.Ytaholpfikcdhbaa

/- The checker's ports: inputs, or outputs. -/
namespace Go.Proofs.Ytaholpfikcdhbaa
open Go.RowKit

def SpotRet (E : Int) (e : Ending) : Prop := ∃ a b c : Int, e = .returned (.tuple #[.int .i64 E, .agg #[.int .u8 a, .int .i64 b, .int .i64 c]])
/-- what a method of the checker answers -/
def ChkRet (w : World) (o : Col) (C B : Nat) (X : ChkV) (E : Int) (k : Chk) (e : Ending) (w' : World) : Prop := SpotRet E e ∧ ∃ o', Turn o o' ChkC w w' ∧ (E = 0 → ChkAt w' o' C B X k)

/-- the colours of what 'ports' turns -/
def ChkP (x : Nat) : Prop := x = 2 ∨ x = 4 ∨ x = 6
def ChkRetP (w : World) (o : Col) (C B : Nat) (X : ChkV) (E : Int) (k : Chk) (e : Ending) (w' : World) : Prop := SpotRet E e ∧ ∃ o', Turn o o' ChkP w w' ∧ (E = 0 → ChkAt w' o' C B X k)

/-- what is turned later lies in blocks that are new -/
theorem Turn.late {o o1 : Col} {C : Nat → Prop} {w w1 w2 : World} (h : Turn o o1 C w w1) (c : Nat) (m : Mods (fun k => w.heap.size ≤ k) w1 w2) : Turn o (ext o1 w1.heap.size c) C w w2 := by
  refine ⟨h.mods.trans m (fun _ _ h => h) (fun n hn f => by omega), fun k hk => ?_⟩
  rw [ext_old (Nat.lt_of_lt_of_le hk h.size)]
  exact h.same k hk
/-- the result's block, where nothing else lies -/
theorem spot_set {w : World} {o : Col} {R : Nat} {a b c : Int} (h : Blk w o 7 R 94 #[.int .u8 0, .int .i64 0, .int .i64 0]) :
    (((w.setCell ⟨R, 0, none⟩ (.int .u8 a)).setCell ⟨R, 1, none⟩ (.int .i64 b)).setCell ⟨R, 2, none⟩ (.int .i64 c)).heap[R]? = some (.cells #[.int .u8 a, .int .i64 b, .int .i64 c] 94 (0, 0)) :=
  block_setCell (block_setCell (block_setCell h.1 0 (.int .u8 a)) 1 (.int .i64 b)) 2 (.int .i64 c)
theorem spot_mods {w : World} {N R : Nat} (h : N ≤ R) (a b c : Value) : Mods (fun k => N ≤ k) w (((w.setCell ⟨R, 0, none⟩ a).setCell ⟨R, 1, none⟩ b).setCell ⟨R, 2, none⟩ c) :=
  (((Mods.refl _ w).setCell (p := ⟨R, 0, none⟩) (fun _ => h) a).setCell (p := ⟨R, 1, none⟩) (fun _ => h) b).setCell (p := ⟨R, 2, none⟩) (fun _ => h) c

theorem spot_only (w : World) (R : Nat) (a b c : Value) : Mods (fun k => k = R) w (((w.setCell ⟨R, 0, none⟩ a).setCell ⟨R, 1, none⟩ b).setCell ⟨R, 2, none⟩ c) :=
  (((Mods.refl (fun k => k = R) w).setCell (p := ⟨R, 0, none⟩) (fun _ => rfl) a).setCell (p := ⟨R, 1, none⟩) (fun _ => rfl) b).setCell (p := ⟨R, 2, none⟩) (fun _ => rfl) c
theorem ChkAt.spot {w : World} {q : Col} {C B R : Nat} {X : ChkV} {k : Chk} {t : TypeId} {cs : Array Value} (h : ChkAt w q C B X k) (hR : Blk w q 7 R t cs) (a b c : Value) : ChkAt (((w.setCell ⟨R, 0, none⟩ a).setCell ⟨R, 1, none⟩ b).setCell ⟨R, 2, none⟩ c) (ext q w.heap.size 7) C B X k :=
  h.turn (Turn.of_mods (C := fun x => x = 7) q 7 (spot_only w R a b c) (fun b _ e => by subst e; exact hR.2)) (fun x hx e => by subst e; exact absurd hx (by unfold ChkC; omega))
theorem portsE_cons {seen : List ByteArray} {side : List (List Bool)} {l : List GPort} {j : Nat} (h : j < l.length) : portsE seen side (l.drop j) = if portE seen side l[j] ≠ 0 then portE seen side l[j] else portsE (seen ++ [l[j].name]) (takeS side l[j].actor l[j].port) (l.drop (j + 1)) := by
  rw [List.drop_eq_getElem_cons h, portsE]
theorem portsS_snoc {side : List (List Bool)} {l : List GPort} {j : Nat} (h : j < l.length) : portsS side (l.take (j + 1)) = takeS (portsS side (l.take j)) l[j].actor l[j].port := by
  rw [List.take_succ_eq_append_getElem h, portsS, List.foldl_append]; rfl
theorem portsN_snoc {seen : List ByteArray} {l : List GPort} {j : Nat} (h : j < l.length) : portsN seen (l.take (j + 1)) = portsN seen (l.take j) ++ [l[j].name] := by
  rw [List.take_succ_eq_append_getElem h, portsN, portsN, List.map_append, List.append_assoc]; rfl
theorem spot_new (w : World) (o : Col) (c : Nat) : Blk (w.alloc (.cells #[.int .u8 0, .int .i64 0, .int .i64 0] 94)) (ext o w.heap.size c) c w.heap.size 94 #[.int .u8 0, .int .i64 0, .int .i64 0] := ⟨heap_alloc_new w _, ext_new (Nat.le_refl _)⟩

theorem port_split {seen : List ByteArray} {side : List (List Bool)} {p : GPort} {r : Int} : (if portE seen side p ≠ 0 then portE seen side p else r) = if nameE seen p.name ≠ 0 then nameE seen p.name else if takeE side p.actor p.port ≠ 0 then takeE side p.actor p.port else r := by
  unfold portE
  by_cases h : nameE seen p.name = 0
  · simp [h]
  · simp [h]
theorem portsN_len {seen : List ByteArray} {l : List GPort} {j : Nat} (hj : j ≤ l.length) (h : seen.length + l.length ≤ 1000000) : (portsN seen (l.take j)).length ≤ 1000000 := by
  simp [portsN]; omega

set_option maxRecDepth 100000 in
set_option maxHeartbeats 2000000 in
theorem gports_in (w0 w : World) (o : Col) (C B : Nat) (X : ChkV) (k : Chk) (v : Value) (l : List GPort) (kd en : Int) (hv : Recs w0 3 PortR v l) (K : Kept w0.heap.size o w0 w) (hn : k.seen.length + l.length ≤ 1000000) (hs : ∀ p ∈ l, p.name.size ≤ 4611686018427387904) (h : ChkAt w o C B X k) :
    Calls Try.prog 37 #[.pointer (some ⟨C, 0, none⟩), v, X.vI, .int .u8 kd, .int .i64 en] w (ChkRetP w o C B X (portsE k.seen k.ins l) ⟨portsN k.seen l, portsS k.ins l, k.outs⟩) := by
  obtain ⟨ao, cap, rfl⟩ := hv.slice
  obtain ⟨E, hE⟩ : ∃ E, portsE k.seen k.ins l = E := ⟨_, rfl⟩
  rw [hE]
  have HE := Lib.hid (show portsE (portsN k.seen (l.take 0)) (portsS k.ins (l.take 0)) (l.drop 0) = E by simpa [portsN, portsS] using hE)
  have HV := Lib.hid hv
  have HN := Lib.hid hn
  have HSZ := Lib.hid hs
  have hbR := below_alloc w (.cells #[.int .u8 0, .int .i64 0, .int .i64 0] 94)
  have HT0 := Lib.hid ((Turn.of_below o 7 hbR).mono (D := ChkP) (fun _ h => h.elim))
  have HK0 := Lib.hid (K.of_below 7 hbR)
  have HC0 : Hid (ChkAt _ _ C B X ⟨portsN k.seen (l.take 0), portsS k.ins (l.take 0), k.outs⟩) := Lib.hid (by simpa [portsN, portsS] using h.below 7 hbR)
  have HR0 := Lib.hid (spot_new w o 7)
  clear hE hv hn hs K h hbR
  go_enter Try.func37, Try.ntmps37
  go_wp2_with fail
  obtain ⟨R, hR⟩ : ∃ R, w.heap.size = R := ⟨_, rfl⟩
  have HRE := Lib.hid hR
  rw [hR] at HR0 HT0 HK0 HC0 ⊢
  clear hR
  go_loopw [18] (fun i wr => ∃ (j : Nat) (q : Col), j ≤ l.length ∧ i = .int .i64 j ∧ Kept w0.heap.size q w0 wr ∧ Turn o q ChkP w wr ∧ Blk wr q 7 R 94 #[.int .u8 0, .int .i64 0, .int .i64 0] ∧ ChkAt wr q C B X ⟨portsN k.seen (l.take j), portsS k.ins (l.take j), k.outs⟩ ∧ portsE (portsN k.seen (l.take j)) (portsS k.ins (l.take j)) (l.drop j) = E) (fun i _ => l.length - (intOf i).toNat)
  case atStart => exact ⟨0, _, Nat.zero_le _, rfl, HK0.out, HT0.out, HR0.out, HC0.out, HE.out⟩
  case round =>
    clear HK0 HT0 HR0 HC0 HE
    obtain ⟨j, q, hj, rfl, hK, hT, hR, hC, hE⟩ := hrel
    have HK := Lib.hid hK
    have HT := Lib.hid hT
    have HR := Lib.hid hR
    have HC := Lib.hid hC
    have HE := Lib.hid hE
    clear hK hT hR hC hE
    by_cases hlt : j < l.length
    · have hlti : (j : Int) < l.length := by omega
      obtain ⟨b0, off, rfl, hcap, hb0, hrec⟩ := (HV.out.below port_steady HK.out.below).at (by omega)
      obtain ⟨cs, hcs, hPR, hcl⟩ := hrec j hlt
      obtain rfl := hPR
      have c0 := hcl 0 (by omega)
      have c1 := hcl 1 (by omega)
      have c2 := hcl 2 (by omega)
      simp at c0 c1 c2
      have hcapi : (l.length : Int) ≤ cap := by omega
      clear hcl hcs hrec
      have hEc := HE.out
      rw [portsE_cons hlt] at hEc
      have HEC := Lib.hid hEc
      have HSn := Lib.hid (portsS_snoc (side := k.ins) hlt)
      have HNn := Lib.hid (portsN_snoc (seen := k.seen) hlt)
      have hpz := HSZ.out l[j] (List.getElem_mem hlt)
      generalize l[j] = p at *
      clear hEc
      rw [port_split] at HEC
      have hsl := portsN_len hj HN.out
      obtain ⟨sn, hsn⟩ : ∃ x, portsN k.seen (l.take j) = x := ⟨_, rfl⟩
      obtain ⟨sd, hsd⟩ : ∃ x, portsS k.ins (l.take j) = x := ⟨_, rfl⟩
      rw [hsn, hsd] at HEC HC
      rw [hsn] at HNn hsl
      rw [hsd] at HSn
      clear hsn hsd HE
      have hbX := below_alloc wr (.cells #[.string p.name, .int .i64 p.actor, .int .i64 p.port] 85)
      have hX : Blk (wr.alloc (.cells #[.string p.name, .int .i64 p.actor, .int .i64 p.port] 85)) (ext q wr.heap.size 8) 8 wr.heap.size 85 #[.string p.name, .int .i64 p.actor, .int .i64 p.port] := ⟨heap_alloc_new wr _, ext_new (Nat.le_refl _)⟩
      have hTX := (Turn.of_below q 8 hbX).mono (D := ChkP) (fun _ h => h.elim)
      have HK2 := Lib.hid (HK.out.of_below 8 hbX)
      have HT2 := Lib.hid (HT.out.trans hTX (fun _ h => h))
      have HR2 := Lib.hid (HR.out.turn (Turn.of_below q 8 hbX) (fun h => h))
      have HC2 := Lib.hid (HC.out.below 8 hbX)
      have HX := Lib.hid hX
      clear hbX hX hTX HK HT HR HC
      go_wp2_with fail
      refine (gname_any _ (ext q wr.heap.size 8) C B X ⟨sn, sd, k.outs⟩ p.name hpz hsl HC2.out).mono ?_
      rintro e w4 ⟨rfl, o4, T40, hC4⟩
      have T4 := T40.mono (D := ChkP) (fun x e => .inl e)
      have HK4 := Lib.hid (HK2.out.turn T4 (by unfold ChkP; omega))
      have HT4 := Lib.hid (HT2.out.trans T4 (fun _ h => h))
      have HR4 := Lib.hid (HR2.out.turn T4 (by unfold ChkP; omega))
      have HX4 := Lib.hid (HX.out.turn T4 (by unfold ChkP; omega))
      have HC4 := Lib.hid hC4
      clear T40 T4 hC4 HK2 HT2 HR2 HC2 HX
      obtain ⟨ne, hne⟩ : ∃ x, nameE sn p.name = x := ⟨_, rfl⟩
      rw [show nameE (Chk.seen ⟨sn, sd, k.outs⟩) p.name = ne from hne] at HC4 ⊢
      rw [hne] at HEC
      clear hne
      by_cases h0 : ne = 0
      · subst h0
        have hC5 := HC4.out rfl
        obtain ⟨gI, hSI⟩ := hC5.ins
        have HC5 := Lib.hid hC5
        have HSI := Lib.hid hSI
        have x1 := HX4.out.cell 1 _ rfl
        have x2 := HX4.out.cell 2 _ rfl
        rw [if_neg (by simp)] at HEC
        clear hC5 hSI HC4
        go_wp2_with fail
        refine (gtake_any _ o4 3 4 X.vI sd gI p.actor p.port (by decide) HSI.out).mono ?_
        rintro e w5 ⟨rfl, T5, hS5⟩
        have HK5 := Lib.hid (HK4.out.turn T5 (by decide))
        have HT5 := Lib.hid (HT4.out.trans T5 (fun x e => by subst e; unfold ChkP; omega))
        have HR5 := Lib.hid (HR4.out.turn T5 (by decide))
        have HC6 := Lib.hid (fun (e : takeE sd p.actor p.port = 0) => HC5.out.tookI T5 (hS5 e))
        clear T5 hS5 HK4 HT4 HR4 HX4 HC5 HSI x1 x2
        obtain ⟨te, hte⟩ : ∃ x, takeE sd p.actor p.port = x := ⟨_, rfl⟩
        rw [hte] at HEC HC6 ⊢
        clear hte
        by_cases h0 : te = 0
        · subst h0
          have HC7 := Lib.hid (HC6.out rfl)
          rw [if_neg (by simp)] at HEC
          have HE2 : Hid (portsE (portsN k.seen (l.take (j + 1))) (portsS k.ins (l.take (j + 1))) (l.drop (j + 1)) = E) := Lib.hid (by rw [HNn.out, HSn.out]; exact HEC.out)
          have HC8 : Hid (ChkAt w5 o4 C B X ⟨portsN k.seen (l.take (j + 1)), portsS k.ins (l.take (j + 1)), k.outs⟩) := Lib.hid (by rw [HNn.out, HSn.out]; exact HC7.out)
          have hnn := HN.out
          clear HC6 HC7 HEC
          go_wp2
          go_roundw
          case rel => exact ⟨j + 1, o4, hlt, by go_num, HK5.out, HT5.out, HR5.out, HC8.out, HE2.out⟩
          case measure => simp [intOf]; omega
        · have e : E = te := by rw [← HEC.out, if_pos h0]
          subst e
          have z0 := HR5.out.cell 0 _ rfl
          have z1 := HR5.out.cell 1 _ rfl
          have z2 := HR5.out.cell 2 _ rfl
          have f0 := HR5.out.frozen 0
          have f1 := HR5.out.frozen 1
          have f2 := HR5.out.frozen 2
          go_wp2
          refine bodyPost_ret_by (results_tmp_row rfl _ _ _ _ _ _ _ rfl (spot_set HR5.out) Try.underlying94 rfl (by kernel_rfl)) rfl ?_
          exact ⟨⟨_, _, _, rfl⟩, _, HT5.out.late 7 (spot_mods (by have := HRE.out; omega) _ _ _), fun h => absurd h h0⟩
      · have e : E = ne := by rw [← HEC.out, if_pos h0]
        subst e
        have z0 := HR4.out.cell 0 _ rfl
        have z1 := HR4.out.cell 1 _ rfl
        have z2 := HR4.out.cell 2 _ rfl
        have f0 := HR4.out.frozen 0
        have f1 := HR4.out.frozen 1
        have f2 := HR4.out.frozen 2
        go_wp2
        refine bodyPost_ret_by (results_tmp_row rfl _ _ _ _ _ _ _ rfl (spot_set HR4.out) Try.underlying94 rfl (by kernel_rfl)) rfl ?_
        exact ⟨⟨_, _, _, rfl⟩, _, HT4.out.late 7 (spot_mods (by have := HRE.out; omega) _ _ _), fun h => absurd h h0⟩
    · obtain rfl : j = l.length := by omega
      have hfin := HE.out
      rw [List.drop_length, List.take_length] at hfin
      obtain rfl : E = 0 := hfin.symm
      have hC9 := HC.out
      rw [List.take_length, ] at hC9
      have HC9 := Lib.hid hC9
      clear hfin hC9
      have z0 := HR.out.cell 0 _ rfl
      have z1 := HR.out.cell 1 _ rfl
      have z2 := HR.out.cell 2 _ rfl
      have f0 := HR.out.frozen 0
      have f1 := HR.out.frozen 1
      have f2 := HR.out.frozen 2
      go_wp2
      refine bodyPost_ret_by (results_tmp_row rfl _ _ _ _ _ _ _ rfl (spot_set HR.out) Try.underlying94 rfl (by kernel_rfl)) rfl ?_
      exact ⟨⟨_, _, _, rfl⟩, _, HT.out.late 7 (spot_mods (by have := HRE.out; omega) _ _ _), fun _ => HC9.out.spot HR.out _ _ _⟩
end Go.Proofs.Ytaholpfikcdhbaa

/- The checker's head. -/
namespace Go.Proofs.Ytaholpfikcdhbaa
open Go.RowKit


def headL (s : ByteArray) (n1 n2 n3 n4 : Nat) : Int := if !nameP s then 82 else if n1 = 0 then 80 else if 32 < n1 then 81 else if 96 < n2 then 81 else if 16 < n3 then 81 else if 16 < n4 then 81 else 0
theorem headE_eq (g : GGraph) : headE g = headL g.name g.actors.length g.edges.length g.ins.length g.outs.length := rfl


set_option maxRecDepth 100000 in
set_option maxHeartbeats 2000000 in
theorem ghead_any (w : World) (o : Col) (C B : Nat) (X : ChkV) (k : Chk) (a1 a2 a3 a4 : Option Addr) (n1 n2 n3 n4 c1 c2 c3 c4 : Nat) (h1 : X.va = .slice a1 n1 c1) (h2 : X.ve = .slice a2 n2 c2) (h3 : X.vi = .slice a3 n3 c3) (h4 : X.vo = .slice a4 n4 c4) (hs : X.name.size ≤ 4611686018427387904) (h : ChkAt w o C B X k) :
    Calls Try.prog 34 #[.pointer (some ⟨C, 0, none⟩)] w (ChkRet w o C B X (headL X.name n1 n2 n3 n4) k) := by
  obtain ⟨E, hE⟩ : ∃ E, headL X.name n1 n2 n3 n4 = E := ⟨_, rfl⟩
  rw [hE]
  have HE := Lib.hid hE
  have HS := Lib.hid hs
  have hbR := below_alloc w (.cells #[.int .u8 0, .int .i64 0, .int .i64 0] 94)
  have hC0 := h.below 7 hbR
  obtain ⟨q0, q1, q2, q3, q4, _⟩ := hC0.cells
  rw [h1] at q1
  rw [h2] at q2
  rw [h3] at q3
  rw [h4] at q4
  have HT0 := Lib.hid ((Turn.of_below o 7 hbR).mono (D := ChkC) (fun _ h => h.elim))
  have HC0 := Lib.hid hC0
  have HR0 := Lib.hid (spot_new w o 7)
  clear hE hs h hbR hC0 h1 h2 h3 h4
  go_enter Try.func34, Try.ntmps34
  go_wp2_with fail
  obtain ⟨R, hR⟩ : ∃ R, w.heap.size = R := ⟨_, rfl⟩
  have HRE := Lib.hid hR
  have hbG := below_alloc (w.alloc (.cells #[.int .u8 0, .int .i64 0, .int .i64 0] 94)) (.cells #[.string X.name, .slice a1 n1 c1, .slice a2 n2 c2, .slice a3 n3 c3, .slice a4 n4 c4] 61)
  have hG := heap_alloc_new (w.alloc (.cells #[.int .u8 0, .int .i64 0, .int .i64 0] 94)) (.cells #[.string X.name, .slice a1 n1 c1, .slice a2 n2 c2, .slice a3 n3 c3, .slice a4 n4 c4] 61)
  rw [World.size_alloc] at hG
  have HT1 := Lib.hid (HT0.out.trans ((Turn.of_below _ 8 hbG).mono (D := ChkC) (fun _ h => h.elim)) (fun _ h => h))
  have HR1 := Lib.hid (HR0.out.turn (Turn.of_below _ 8 hbG) (fun h => h))
  have HC1 := Lib.hid (HC0.out.below 8 hbG)
  have HG := Lib.hid hG
  rw [hR] at HR1 HT1 HC1 HG
  clear hbG hG q0 q1 q2 q3 q4 HT0 HC0 HR0
  refine (name_any _ X.name HS.out).mono ?_
  rintro e w2 ⟨rfl, hb2⟩
  have HT2 := Lib.hid (HT1.out.trans ((Turn.of_below _ 9 hb2).mono (D := ChkC) (fun _ h => h.elim)) (fun _ h => h))
  have HR2 := Lib.hid (HR1.out.turn (Turn.of_below _ 9 hb2) (fun h => h))
  have HC2 := Lib.hid (HC1.out.below 9 hb2)
  have hG2 := block_mods HG.out (Mods.of_below hb2 (fun _ => False)) (fun h => h)
  have q1 := cells_row w2 _ hG2 1 _ rfl
  have q2 := cells_row w2 _ hG2 2 _ rfl
  have q3 := cells_row w2 _ hG2 3 _ rfl
  have q4 := cells_row w2 _ hG2 4 _ rfl
  clear hb2 hG2 HT1 HR1 HC1 HG
  obtain ⟨np, hnp⟩ : ∃ x, nameP X.name = x := ⟨_, rfl⟩
  rw [hnp, hR]
  have HNP := Lib.hid hnp
  clear hnp hR
  cases np with
  | false =>
    have e : E = 82 := by rw [← HE.out, headL, HNP.out]; simp []
    subst e
    have z0 := HR2.out.cell 0 _ rfl
    have z1 := HR2.out.cell 1 _ rfl
    have z2 := HR2.out.cell 2 _ rfl
    have f0 := HR2.out.frozen 0
    have f1 := HR2.out.frozen 1
    have f2 := HR2.out.frozen 2
    go_wp2
    refine bodyPost_ret_by (results_tmp_row rfl _ _ _ _ _ _ _ rfl (spot_set HR2.out) Try.underlying94 rfl (by kernel_rfl)) rfl ?_
    exact ⟨⟨_, _, _, rfl⟩, _, HT2.out.late 7 (spot_mods (by have := HRE.out; omega) _ _ _), fun h => by cases h⟩
  | true =>
    by_cases d1 : n1 = 0
    · have d1i : ((n1 : Int) == 0) = true := by rw [beq_iff_eq]; omega
      have e : E = 80 := by rw [← HE.out, headL, HNP.out]; simp [d1]
      subst e
      have z0 := HR2.out.cell 0 _ rfl
      have z1 := HR2.out.cell 1 _ rfl
      have z2 := HR2.out.cell 2 _ rfl
      have f0 := HR2.out.frozen 0
      have f1 := HR2.out.frozen 1
      have f2 := HR2.out.frozen 2
      go_wp2
      refine bodyPost_ret_by (results_tmp_row rfl _ _ _ _ _ _ _ rfl (spot_set HR2.out) Try.underlying94 rfl (by kernel_rfl)) rfl ?_
      exact ⟨⟨_, _, _, rfl⟩, _, HT2.out.late 7 (spot_mods (by have := HRE.out; omega) _ _ _), fun h => by cases h⟩
    have d1i : ((n1 : Int) == 0) = false := by rw [beq_eq_false_iff_ne]; omega
    by_cases d2 : 32 < n1
    · have d2i : (32 : Int) < n1 := by omega
      have e : E = 81 := by rw [← HE.out, headL, HNP.out]; simp [d1, d2]
      subst e
      have z0 := HR2.out.cell 0 _ rfl
      have z1 := HR2.out.cell 1 _ rfl
      have z2 := HR2.out.cell 2 _ rfl
      have f0 := HR2.out.frozen 0
      have f1 := HR2.out.frozen 1
      have f2 := HR2.out.frozen 2
      go_wp2
      refine bodyPost_ret_by (results_tmp_row rfl _ _ _ _ _ _ _ rfl (spot_set HR2.out) Try.underlying94 rfl (by kernel_rfl)) rfl ?_
      exact ⟨⟨_, _, _, rfl⟩, _, HT2.out.late 7 (spot_mods (by have := HRE.out; omega) _ _ _), fun h => by cases h⟩
    have d2i : ¬ (32 : Int) < n1 := by omega
    by_cases d3 : 96 < n2
    · have d3i : (96 : Int) < n2 := by omega
      have e : E = 81 := by rw [← HE.out, headL, HNP.out]; simp [d1, d2, d3]
      subst e
      have z0 := HR2.out.cell 0 _ rfl
      have z1 := HR2.out.cell 1 _ rfl
      have z2 := HR2.out.cell 2 _ rfl
      have f0 := HR2.out.frozen 0
      have f1 := HR2.out.frozen 1
      have f2 := HR2.out.frozen 2
      go_wp2
      refine bodyPost_ret_by (results_tmp_row rfl _ _ _ _ _ _ _ rfl (spot_set HR2.out) Try.underlying94 rfl (by kernel_rfl)) rfl ?_
      exact ⟨⟨_, _, _, rfl⟩, _, HT2.out.late 7 (spot_mods (by have := HRE.out; omega) _ _ _), fun h => by cases h⟩
    have d3i : ¬ (96 : Int) < n2 := by omega
    by_cases d4 : 16 < n3
    · have d4i : (16 : Int) < n3 := by omega
      have e : E = 81 := by rw [← HE.out, headL, HNP.out]; simp [d1, d2, d3, d4]
      subst e
      have z0 := HR2.out.cell 0 _ rfl
      have z1 := HR2.out.cell 1 _ rfl
      have z2 := HR2.out.cell 2 _ rfl
      have f0 := HR2.out.frozen 0
      have f1 := HR2.out.frozen 1
      have f2 := HR2.out.frozen 2
      go_wp2
      refine bodyPost_ret_by (results_tmp_row rfl _ _ _ _ _ _ _ rfl (spot_set HR2.out) Try.underlying94 rfl (by kernel_rfl)) rfl ?_
      exact ⟨⟨_, _, _, rfl⟩, _, HT2.out.late 7 (spot_mods (by have := HRE.out; omega) _ _ _), fun h => by cases h⟩
    have d4i : ¬ (16 : Int) < n3 := by omega
    by_cases d5 : 16 < n4
    · have d5i : (16 : Int) < n4 := by omega
      have e : E = 81 := by rw [← HE.out, headL, HNP.out]; simp [d1, d2, d3, d4, d5]
      subst e
      have z0 := HR2.out.cell 0 _ rfl
      have z1 := HR2.out.cell 1 _ rfl
      have z2 := HR2.out.cell 2 _ rfl
      have f0 := HR2.out.frozen 0
      have f1 := HR2.out.frozen 1
      have f2 := HR2.out.frozen 2
      go_wp2
      refine bodyPost_ret_by (results_tmp_row rfl _ _ _ _ _ _ _ rfl (spot_set HR2.out) Try.underlying94 rfl (by kernel_rfl)) rfl ?_
      exact ⟨⟨_, _, _, rfl⟩, _, HT2.out.late 7 (spot_mods (by have := HRE.out; omega) _ _ _), fun h => by cases h⟩
    have d5i : ¬ (16 : Int) < n4 := by omega
    have e : E = 0 := by rw [← HE.out, headL, HNP.out]; simp [d1, d2, d3, d4, d5]
    subst e
    have z0 := HR2.out.cell 0 _ rfl
    have z1 := HR2.out.cell 1 _ rfl
    have z2 := HR2.out.cell 2 _ rfl
    have f0 := HR2.out.frozen 0
    have f1 := HR2.out.frozen 1
    have f2 := HR2.out.frozen 2
    go_wp2
    refine bodyPost_ret_by (results_tmp_row rfl _ _ _ _ _ _ _ rfl (spot_set HR2.out) Try.underlying94 rfl (by kernel_rfl)) rfl ?_
    exact ⟨⟨_, _, _, rfl⟩, _, HT2.out.late 7 (spot_mods (by have := HRE.out; omega) _ _ _), fun _ => HC2.out.spot HR2.out _ _ _⟩
end Go.Proofs.Ytaholpfikcdhbaa

/- The checker's edges. -/
namespace Go.Proofs.Ytaholpfikcdhbaa
open Go.RowKit


theorem edgesE_cons {c : Chk} {l : List GEdge} {j : Nat} (h : j < l.length) : edgesE c (l.drop j) = if edgeE c l[j] ≠ 0 then edgeE c l[j] else edgesE (edgeC c l[j]) (l.drop (j + 1)) := by
  rw [List.drop_eq_getElem_cons h, edgesE]
theorem edgesC_snoc {c : Chk} {l : List GEdge} {j : Nat} (h : j < l.length) : edgesC c (l.take (j + 1)) = edgeC (edgesC c (l.take j)) l[j] := by
  rw [List.take_succ_eq_append_getElem h, edgesC, List.foldl_append]; rfl
theorem edge_split {c : Chk} {e : GEdge} {r : Int} : (if edgeE c e ≠ 0 then edgeE c e else r) = if takeE c.outs e.src e.sport ≠ 0 then takeE c.outs e.src e.sport else if takeE c.ins e.dst e.dport ≠ 0 then takeE c.ins e.dst e.dport else if 256 < e.start.length then 88 else r := by
  unfold edgeE
  by_cases h : takeE c.outs e.src e.sport = 0
  · by_cases h2 : takeE c.ins e.dst e.dport = 0
    · by_cases h3 : 256 < e.start.length
      · simp [h, h2, h3]
      · simp [h, h2, h3]
    · simp [h, h2]
  · simp [h]

set_option maxRecDepth 100000 in
set_option maxHeartbeats 2000000 in
theorem gedges_any (w0 w : World) (o : Col) (C B : Nat) (X : ChkV) (k : Chk) (l : List GEdge) (hv : Recs w0 5 EdgeR X.ve l) (K : Kept w0.heap.size o w0 w) (hn : l.length ≤ 1000000) (h : ChkAt w o C B X k) :
    Calls Try.prog 36 #[.pointer (some ⟨C, 0, none⟩)] w (ChkRet w o C B X (edgesE k l) (edgesC k l)) := by
  obtain ⟨ao, cap, hve⟩ := hv.slice
  rw [hve] at hv
  obtain ⟨E, hE⟩ : ∃ E, edgesE k l = E := ⟨_, rfl⟩
  rw [hE]
  have HE := Lib.hid (show edgesE (edgesC k (l.take 0)) (l.drop 0) = E by simpa [edgesC] using hE)
  have HV := Lib.hid hv
  have HVE := Lib.hid hve
  have HN := Lib.hid hn
  have hbR := below_alloc w (.cells #[.int .u8 0, .int .i64 0, .int .i64 0] 94)
  have HT0 := Lib.hid ((Turn.of_below o 7 hbR).mono (D := ChkC) (fun _ h => h.elim))
  have HK0 := Lib.hid (K.of_below 7 hbR)
  have hC0 := h.below 7 hbR
  have q2 := hC0.cells.2.2.1
  rw [hve] at q2
  have HC0 : Hid (ChkAt _ _ C B X (edgesC k (l.take 0))) := Lib.hid (by simpa [edgesC] using hC0)
  have HR0 := Lib.hid (spot_new w o 7)
  clear hE hv hve hn K h hbR hC0
  go_enter Try.func36, Try.ntmps36
  go_wp2_with fail
  clear q2
  obtain ⟨R, hR⟩ : ∃ R, w.heap.size = R := ⟨_, rfl⟩
  have HRE := Lib.hid hR
  rw [hR] at HR0 HT0 HK0 HC0 ⊢
  clear hR
  go_loopw [14] (fun i wr => ∃ (j : Nat) (q : Col), j ≤ l.length ∧ i = .int .i64 j ∧ Kept w0.heap.size q w0 wr ∧ Turn o q ChkC w wr ∧ Blk wr q 7 R 94 #[.int .u8 0, .int .i64 0, .int .i64 0] ∧ ChkAt wr q C B X (edgesC k (l.take j)) ∧ edgesE (edgesC k (l.take j)) (l.drop j) = E) (fun i _ => l.length - (intOf i).toNat)
  case atStart => exact ⟨0, _, Nat.zero_le _, rfl, HK0.out, HT0.out, HR0.out, HC0.out, HE.out⟩
  case round =>
    clear HK0 HT0 HR0 HC0 HE
    obtain ⟨j, q, hj, rfl, hK, hT, hR, hC, hE⟩ := hrel
    have HK := Lib.hid hK
    have HT := Lib.hid hT
    have HR := Lib.hid hR
    have HC := Lib.hid hC
    have HE := Lib.hid hE
    clear hK hT hR hC hE
    by_cases hlt : j < l.length
    · have hlti : (j : Int) < l.length := by omega
      obtain ⟨b0, off, rfl, hcap, hb0, hrec⟩ := (HV.out.below edge_steady HK.out.below).at (by omega)
      obtain ⟨cs, hcs, hPR, hcl⟩ := hrec j hlt
      obtain ⟨xs, rfl, hst⟩ := hPR
      have c0 := hcl 0 (by omega)
      have c1 := hcl 1 (by omega)
      have c2 := hcl 2 (by omega)
      have c3 := hcl 3 (by omega)
      have c4 := hcl 4 (by omega)
      simp at c0 c1 c2 c3 c4
      have hcapi : (l.length : Int) ≤ cap := by omega
      have hEc := HE.out
      rw [edgesE_cons hlt] at hEc
      have HEC := Lib.hid hEc
      have HCn := Lib.hid (edgesC_snoc (c := k) hlt)
      have hst2 : Has wr xs (ivs l[j].start) := hst
      obtain ⟨sa, sc, hxs⟩ := Ints.slice hst2
      subst hxs
      clear hcl hcs hrec hst hst2 hEc HE
      generalize l[j] = p at *
      rw [edge_split] at HEC
      obtain ⟨kk, hkk⟩ : ∃ x, edgesC k (l.take j) = x := ⟨_, rfl⟩
      rw [hkk] at HEC HC HCn
      clear hkk
      have hbX := below_alloc wr (.cells #[.int .i64 p.src, .int .i64 p.sport, .int .i64 p.dst, .int .i64 p.dport, .slice sa p.start.length sc] 81)
      have hX : Blk (wr.alloc (.cells #[.int .i64 p.src, .int .i64 p.sport, .int .i64 p.dst, .int .i64 p.dport, .slice sa p.start.length sc] 81)) (ext q wr.heap.size 8) 8 wr.heap.size 81 #[.int .i64 p.src, .int .i64 p.sport, .int .i64 p.dst, .int .i64 p.dport, .slice sa p.start.length sc] := ⟨heap_alloc_new wr _, ext_new (Nat.le_refl _)⟩
      have hTX := (Turn.of_below q 8 hbX).mono (D := ChkC) (fun _ h => h.elim)
      have HK2 := Lib.hid (HK.out.of_below 8 hbX)
      have HT2 := Lib.hid (HT.out.trans hTX (fun _ h => h))
      have HR2 := Lib.hid (HR.out.turn (Turn.of_below q 8 hbX) (fun h => h))
      have HC2 := Lib.hid (HC.out.below 8 hbX)
      have HX := Lib.hid hX
      have y0 := hX.cell 0 _ rfl
      have y1 := hX.cell 1 _ rfl
      have y7 := HC2.out.cells.2.2.2.2.2.2.2
      obtain ⟨gO, hSO⟩ := HC2.out.outs
      have HSO := Lib.hid hSO
      clear hbX hX hTX HK HT HR HC hSO
      go_wp2_with fail
      refine wp_region_lex (fun w' => w'.cell? ⟨C, 7, none⟩ = some X.vO ∧ w'.cell? ⟨wr.heap.size, 0, none⟩ = some (.int .i64 p.src) ∧ w'.cell? ⟨wr.heap.size, 1, none⟩ = some (.int .i64 p.sport)) [0, 1, 2, 3, 4, 5, 6, 7] [8, 9] (by kernel_rfl) (by kernel_rfl) rfl (fun _ _ hx h => ⟨hx.cell h.1, hx.cell h.2.1, hx.cell h.2.2⟩) ⟨y7, y0, y1⟩ ?_
      intro Q' hQ'
      simp only [pickOps, List.flatMap_cons, List.flatMap_nil, List.drop_succ_cons, List.drop_zero, List.take_succ_cons, List.take_zero, List.cons_append, List.nil_append, List.append_nil]
      repeat (first
        | (refine wpReads_skip (by rfl) ?_; (try simp only [Act.put, List.setIfInBounds_toArray, List.set_cons_zero, List.set_cons_succ]))
        | (refine wpReads_cons ?_ (by rfl) (by rfl) ?_ ?_; rotate_left; (intro wz hz; (try dsimp only at hz); go_simp; try with_reducible rfl); (try simp only [Act.put, List.setIfInBounds_toArray, List.set_cons_zero, List.set_cons_succ]))
        | (refine wpReads_any ?_ (by rfl) ?_ ?_; rotate_left; (intro wz; go_simp; try with_reducible rfl); (try simp only [Act.put, List.setIfInBounds_toArray, List.set_cons_zero, List.set_cons_succ])))
      refine wpReads_nil ?_
      go_wp2_with fail
      refine (gtake_any _ (ext q wr.heap.size 8) 5 6 X.vO kk.outs gO p.src p.sport (by decide) (HSO.out.turn (Turn.of_quiet _ ⟨1, rfl⟩) (fun h => h) (fun h => h))).mono ?_
      rintro e w5 ⟨rfl, T5, hS5⟩
      have T6 := ((Turn.of_quiet (ext q wr.heap.size 8) ⟨1, rfl⟩).mono (D := fun x => x = 6) (fun _ h => h.elim)).trans T5 (fun _ h => h)
      have HK5 := Lib.hid (HK2.out.turn T6 (by decide))
      have HT5 := Lib.hid (HT2.out.trans T6 (fun x e => by subst e; unfold ChkC; omega))
      have HR5 := Lib.hid (HR2.out.turn T6 (by decide))
      have HX5 := Lib.hid (HX.out.turn T6 (by decide))
      have HC5 := Lib.hid (fun (e : takeE kk.outs p.src p.sport = 0) => HC2.out.tookO T6 (hS5 e))
      clear T5 T6 hS5 HK2 HT2 HR2 HX HC2 HSO y0 y1 y7
      generalize ext q wr.heap.size 8 = q5 at *
      obtain ⟨te, hte⟩ : ∃ x, takeE kk.outs p.src p.sport = x := ⟨_, rfl⟩
      rw [hte] at HEC HC5 ⊢
      clear hte
      by_cases h0 : te = 0
      · subst h0
        have hC6 := HC5.out rfl
        have HC6 := Lib.hid hC6
        obtain ⟨gI, hSI⟩ := hC6.ins
        have HSI := Lib.hid hSI
        have y2 := HX5.out.cell 2 _ rfl
        have y3 := HX5.out.cell 3 _ rfl
        have y6 := hC6.cells.2.2.2.2.2.2.1
        rw [if_neg (by simp)] at HEC
        clear hC6 hSI HC5
        go_wp2_with fail
        refine wp_region_lex (fun w' => w'.cell? ⟨C, 6, none⟩ = some X.vI ∧ w'.cell? ⟨wr.heap.size, 2, none⟩ = some (.int .i64 p.dst) ∧ w'.cell? ⟨wr.heap.size, 3, none⟩ = some (.int .i64 p.dport)) [0, 1, 2, 3, 4, 5, 6, 7] [8, 9] (by kernel_rfl) (by kernel_rfl) rfl (fun _ _ hx h => ⟨hx.cell h.1, hx.cell h.2.1, hx.cell h.2.2⟩) ⟨y6, y2, y3⟩ ?_
        intro Q' hQ'
        simp only [pickOps, List.flatMap_cons, List.flatMap_nil, List.drop_succ_cons, List.drop_zero, List.take_succ_cons, List.take_zero, List.cons_append, List.nil_append, List.append_nil]
        repeat (first
          | (refine wpReads_skip (by rfl) ?_; (try simp only [Act.put, List.setIfInBounds_toArray, List.set_cons_zero, List.set_cons_succ]))
          | (refine wpReads_cons ?_ (by rfl) (by rfl) ?_ ?_; rotate_left; (intro wz hz; (try dsimp only at hz); go_simp; try with_reducible rfl); (try simp only [Act.put, List.setIfInBounds_toArray, List.set_cons_zero, List.set_cons_succ]))
          | (refine wpReads_any ?_ (by rfl) ?_ ?_; rotate_left; (intro wz; go_simp; try with_reducible rfl); (try simp only [Act.put, List.setIfInBounds_toArray, List.set_cons_zero, List.set_cons_succ])))
        refine wpReads_nil ?_
        go_wp2_with fail
        refine (gtake_any _ q5 3 4 X.vI kk.ins gI p.dst p.dport (by decide) (HSI.out.turn (Turn.of_quiet _ ⟨1, rfl⟩) (fun h => h) (fun h => h))).mono ?_
        rintro e w7 ⟨rfl, T7, hS7⟩
        have T8 := ((Turn.of_quiet q5 ⟨1, rfl⟩).mono (D := fun x => x = 4) (fun _ h => h.elim)).trans T7 (fun _ h => h)
        have HK7 := Lib.hid (HK5.out.turn T8 (by decide))
        have HT7 := Lib.hid (HT5.out.trans T8 (fun x e => by subst e; unfold ChkC; omega))
        have HR7 := Lib.hid (HR5.out.turn T8 (by decide))
        have HX7 := Lib.hid (HX5.out.turn T8 (by decide))
        have HC7 := Lib.hid (fun (e : takeE kk.ins p.dst p.dport = 0) => HC6.out.tookI T8 (hS7 e))
        clear T7 T8 hS7 HK5 HT5 HR5 HX5 HC6 HSI y2 y3 y6
        obtain ⟨te, hte⟩ : ∃ x, takeE kk.ins p.dst p.dport = x := ⟨_, rfl⟩
        rw [hte] at HEC HC7 ⊢
        clear hte
        by_cases h0 : te = 0
        · subst h0
          have HC8 : Hid (ChkAt w7 q5 C B X (edgeC kk p)) := Lib.hid (HC7.out rfl)
          rw [if_neg (by simp)] at HEC
          have y4 := HX7.out.cell 4 _ rfl
          by_cases h256 : 256 < p.start.length
          · have h2i : (256 : Int) < p.start.length := by omega
            have e : E = 88 := by rw [← HEC.out, if_pos h256]
            subst e
            have z0 := HR7.out.cell 0 _ rfl
            have z1 := HR7.out.cell 1 _ rfl
            have z2 := HR7.out.cell 2 _ rfl
            have f0 := HR7.out.frozen 0
            have f1 := HR7.out.frozen 1
            have f2 := HR7.out.frozen 2
            go_wp2
            refine bodyPost_ret_by (results_tmp_row rfl _ _ _ _ _ _ _ rfl (spot_set HR7.out) Try.underlying94 rfl (by kernel_rfl)) rfl ?_
            exact ⟨⟨_, _, _, rfl⟩, _, HT7.out.late 7 (spot_mods (by have := HRE.out; omega) _ _ _), fun h => by cases h⟩
          · have h2i : ¬ (256 : Int) < p.start.length := by omega
            rw [if_neg h256] at HEC
            have HE2 : Hid (edgesE (edgesC k (l.take (j + 1))) (l.drop (j + 1)) = E) := Lib.hid (by rw [HCn.out]; exact HEC.out)
            have HC9 : Hid (ChkAt w7 q5 C B X (edgesC k (l.take (j + 1)))) := Lib.hid (by rw [HCn.out]; exact HC8.out)
            have hnn := HN.out
            clear HC7 HC8 HEC
            go_wp2
            go_roundw
            case rel => exact ⟨j + 1, q5, hlt, by go_num, HK7.out, HT7.out, HR7.out, HC9.out, HE2.out⟩
            case measure => simp [intOf]; omega
        · have e : E = te := by rw [← HEC.out, if_pos h0]
          subst e
          have z0 := HR7.out.cell 0 _ rfl
          have z1 := HR7.out.cell 1 _ rfl
          have z2 := HR7.out.cell 2 _ rfl
          have f0 := HR7.out.frozen 0
          have f1 := HR7.out.frozen 1
          have f2 := HR7.out.frozen 2
          go_wp2
          refine bodyPost_ret_by (results_tmp_row rfl _ _ _ _ _ _ _ rfl (spot_set HR7.out) Try.underlying94 rfl (by kernel_rfl)) rfl ?_
          exact ⟨⟨_, _, _, rfl⟩, _, HT7.out.late 7 (spot_mods (by have := HRE.out; omega) _ _ _), fun h => absurd h h0⟩
      · have e : E = te := by rw [← HEC.out, if_pos h0]
        subst e
        have z0 := HR5.out.cell 0 _ rfl
        have z1 := HR5.out.cell 1 _ rfl
        have z2 := HR5.out.cell 2 _ rfl
        have f0 := HR5.out.frozen 0
        have f1 := HR5.out.frozen 1
        have f2 := HR5.out.frozen 2
        go_wp2
        refine bodyPost_ret_by (results_tmp_row rfl _ _ _ _ _ _ _ rfl (spot_set HR5.out) Try.underlying94 rfl (by kernel_rfl)) rfl ?_
        exact ⟨⟨_, _, _, rfl⟩, _, HT5.out.late 7 (spot_mods (by have := HRE.out; omega) _ _ _), fun h => absurd h h0⟩
    · obtain rfl : j = l.length := by omega
      have hfin := HE.out
      rw [List.drop_length, List.take_length] at hfin
      obtain rfl : E = 0 := hfin.symm
      have hC9 := HC.out
      rw [List.take_length] at hC9
      have HC9 := Lib.hid hC9
      clear hfin hC9
      have z0 := HR.out.cell 0 _ rfl
      have z1 := HR.out.cell 1 _ rfl
      have z2 := HR.out.cell 2 _ rfl
      have f0 := HR.out.frozen 0
      have f1 := HR.out.frozen 1
      have f2 := HR.out.frozen 2
      go_wp2
      refine bodyPost_ret_by (results_tmp_row rfl _ _ _ _ _ _ _ rfl (spot_set HR.out) Try.underlying94 rfl (by kernel_rfl)) rfl ?_
      exact ⟨⟨_, _, _, rfl⟩, _, HT.out.late 7 (spot_mods (by have := HRE.out; omega) _ _ _), fun _ => HC9.out.spot HR.out _ _ _⟩
end Go.Proofs.Ytaholpfikcdhbaa

/- The checker's ports: outputs. -/
namespace Go.Proofs.Ytaholpfikcdhbaa
open Go.RowKit


set_option maxRecDepth 100000 in
set_option maxHeartbeats 2000000 in
theorem gports_out (w0 w : World) (o : Col) (C B : Nat) (X : ChkV) (k : Chk) (v : Value) (l : List GPort) (kd en : Int) (hv : Recs w0 3 PortR v l) (K : Kept w0.heap.size o w0 w) (hn : k.seen.length + l.length ≤ 1000000) (hs : ∀ p ∈ l, p.name.size ≤ 4611686018427387904) (h : ChkAt w o C B X k) :
    Calls Try.prog 37 #[.pointer (some ⟨C, 0, none⟩), v, X.vO, .int .u8 kd, .int .i64 en] w (ChkRetP w o C B X (portsE k.seen k.outs l) ⟨portsN k.seen l, k.ins, portsS k.outs l⟩) := by
  obtain ⟨ao, cap, rfl⟩ := hv.slice
  obtain ⟨E, hE⟩ : ∃ E, portsE k.seen k.outs l = E := ⟨_, rfl⟩
  rw [hE]
  have HE := Lib.hid (show portsE (portsN k.seen (l.take 0)) (portsS k.outs (l.take 0)) (l.drop 0) = E by simpa [portsN, portsS] using hE)
  have HV := Lib.hid hv
  have HN := Lib.hid hn
  have HSZ := Lib.hid hs
  have hbR := below_alloc w (.cells #[.int .u8 0, .int .i64 0, .int .i64 0] 94)
  have HT0 := Lib.hid ((Turn.of_below o 7 hbR).mono (D := ChkP) (fun _ h => h.elim))
  have HK0 := Lib.hid (K.of_below 7 hbR)
  have HC0 : Hid (ChkAt _ _ C B X ⟨portsN k.seen (l.take 0), k.ins, portsS k.outs (l.take 0)⟩) := Lib.hid (by simpa [portsN, portsS] using h.below 7 hbR)
  have HR0 := Lib.hid (spot_new w o 7)
  clear hE hv hn hs K h hbR
  go_enter Try.func37, Try.ntmps37
  go_wp2_with fail
  obtain ⟨R, hR⟩ : ∃ R, w.heap.size = R := ⟨_, rfl⟩
  have HRE := Lib.hid hR
  rw [hR] at HR0 HT0 HK0 HC0 ⊢
  clear hR
  go_loopw [18] (fun i wr => ∃ (j : Nat) (q : Col), j ≤ l.length ∧ i = .int .i64 j ∧ Kept w0.heap.size q w0 wr ∧ Turn o q ChkP w wr ∧ Blk wr q 7 R 94 #[.int .u8 0, .int .i64 0, .int .i64 0] ∧ ChkAt wr q C B X ⟨portsN k.seen (l.take j), k.ins, portsS k.outs (l.take j)⟩ ∧ portsE (portsN k.seen (l.take j)) (portsS k.outs (l.take j)) (l.drop j) = E) (fun i _ => l.length - (intOf i).toNat)
  case atStart => exact ⟨0, _, Nat.zero_le _, rfl, HK0.out, HT0.out, HR0.out, HC0.out, HE.out⟩
  case round =>
    clear HK0 HT0 HR0 HC0 HE
    obtain ⟨j, q, hj, rfl, hK, hT, hR, hC, hE⟩ := hrel
    have HK := Lib.hid hK
    have HT := Lib.hid hT
    have HR := Lib.hid hR
    have HC := Lib.hid hC
    have HE := Lib.hid hE
    clear hK hT hR hC hE
    by_cases hlt : j < l.length
    · have hlti : (j : Int) < l.length := by omega
      obtain ⟨b0, off, rfl, hcap, hb0, hrec⟩ := (HV.out.below port_steady HK.out.below).at (by omega)
      obtain ⟨cs, hcs, hPR, hcl⟩ := hrec j hlt
      obtain rfl := hPR
      have c0 := hcl 0 (by omega)
      have c1 := hcl 1 (by omega)
      have c2 := hcl 2 (by omega)
      simp at c0 c1 c2
      have hcapi : (l.length : Int) ≤ cap := by omega
      clear hcl hcs hrec
      have hEc := HE.out
      rw [portsE_cons hlt] at hEc
      have HEC := Lib.hid hEc
      have HSn := Lib.hid (portsS_snoc (side := k.outs) hlt)
      have HNn := Lib.hid (portsN_snoc (seen := k.seen) hlt)
      have hpz := HSZ.out l[j] (List.getElem_mem hlt)
      generalize l[j] = p at *
      clear hEc
      rw [port_split] at HEC
      have hsl := portsN_len hj HN.out
      obtain ⟨sn, hsn⟩ : ∃ x, portsN k.seen (l.take j) = x := ⟨_, rfl⟩
      obtain ⟨sd, hsd⟩ : ∃ x, portsS k.outs (l.take j) = x := ⟨_, rfl⟩
      rw [hsn, hsd] at HEC HC
      rw [hsn] at HNn hsl
      rw [hsd] at HSn
      clear hsn hsd HE
      have hbX := below_alloc wr (.cells #[.string p.name, .int .i64 p.actor, .int .i64 p.port] 85)
      have hX : Blk (wr.alloc (.cells #[.string p.name, .int .i64 p.actor, .int .i64 p.port] 85)) (ext q wr.heap.size 8) 8 wr.heap.size 85 #[.string p.name, .int .i64 p.actor, .int .i64 p.port] := ⟨heap_alloc_new wr _, ext_new (Nat.le_refl _)⟩
      have hTX := (Turn.of_below q 8 hbX).mono (D := ChkP) (fun _ h => h.elim)
      have HK2 := Lib.hid (HK.out.of_below 8 hbX)
      have HT2 := Lib.hid (HT.out.trans hTX (fun _ h => h))
      have HR2 := Lib.hid (HR.out.turn (Turn.of_below q 8 hbX) (fun h => h))
      have HC2 := Lib.hid (HC.out.below 8 hbX)
      have HX := Lib.hid hX
      clear hbX hX hTX HK HT HR HC
      go_wp2_with fail
      refine (gname_any _ (ext q wr.heap.size 8) C B X ⟨sn, k.ins, sd⟩ p.name hpz hsl HC2.out).mono ?_
      rintro e w4 ⟨rfl, o4, T40, hC4⟩
      have T4 := T40.mono (D := ChkP) (fun x e => .inl e)
      have HK4 := Lib.hid (HK2.out.turn T4 (by unfold ChkP; omega))
      have HT4 := Lib.hid (HT2.out.trans T4 (fun _ h => h))
      have HR4 := Lib.hid (HR2.out.turn T4 (by unfold ChkP; omega))
      have HX4 := Lib.hid (HX.out.turn T4 (by unfold ChkP; omega))
      have HC4 := Lib.hid hC4
      clear T40 T4 hC4 HK2 HT2 HR2 HC2 HX
      obtain ⟨ne, hne⟩ : ∃ x, nameE sn p.name = x := ⟨_, rfl⟩
      rw [show nameE (Chk.seen ⟨sn, k.ins, sd⟩) p.name = ne from hne] at HC4 ⊢
      rw [hne] at HEC
      clear hne
      by_cases h0 : ne = 0
      · subst h0
        have hC5 := HC4.out rfl
        obtain ⟨gI, hSI⟩ := hC5.outs
        have HC5 := Lib.hid hC5
        have HSI := Lib.hid hSI
        have x1 := HX4.out.cell 1 _ rfl
        have x2 := HX4.out.cell 2 _ rfl
        rw [if_neg (by simp)] at HEC
        clear hC5 hSI HC4
        go_wp2_with fail
        refine (gtake_any _ o4 5 6 X.vO sd gI p.actor p.port (by decide) HSI.out).mono ?_
        rintro e w5 ⟨rfl, T5, hS5⟩
        have HK5 := Lib.hid (HK4.out.turn T5 (by decide))
        have HT5 := Lib.hid (HT4.out.trans T5 (fun x e => by subst e; unfold ChkP; omega))
        have HR5 := Lib.hid (HR4.out.turn T5 (by decide))
        have HC6 := Lib.hid (fun (e : takeE sd p.actor p.port = 0) => HC5.out.tookO T5 (hS5 e))
        clear T5 hS5 HK4 HT4 HR4 HX4 HC5 HSI x1 x2
        obtain ⟨te, hte⟩ : ∃ x, takeE sd p.actor p.port = x := ⟨_, rfl⟩
        rw [hte] at HEC HC6 ⊢
        clear hte
        by_cases h0 : te = 0
        · subst h0
          have HC7 := Lib.hid (HC6.out rfl)
          rw [if_neg (by simp)] at HEC
          have HE2 : Hid (portsE (portsN k.seen (l.take (j + 1))) (portsS k.outs (l.take (j + 1))) (l.drop (j + 1)) = E) := Lib.hid (by rw [HNn.out, HSn.out]; exact HEC.out)
          have HC8 : Hid (ChkAt w5 o4 C B X ⟨portsN k.seen (l.take (j + 1)), k.ins, portsS k.outs (l.take (j + 1))⟩) := Lib.hid (by rw [HNn.out, HSn.out]; exact HC7.out)
          have hnn := HN.out
          clear HC6 HC7 HEC
          go_wp2
          go_roundw
          case rel => exact ⟨j + 1, o4, hlt, by go_num, HK5.out, HT5.out, HR5.out, HC8.out, HE2.out⟩
          case measure => simp [intOf]; omega
        · have e : E = te := by rw [← HEC.out, if_pos h0]
          subst e
          have z0 := HR5.out.cell 0 _ rfl
          have z1 := HR5.out.cell 1 _ rfl
          have z2 := HR5.out.cell 2 _ rfl
          have f0 := HR5.out.frozen 0
          have f1 := HR5.out.frozen 1
          have f2 := HR5.out.frozen 2
          go_wp2
          refine bodyPost_ret_by (results_tmp_row rfl _ _ _ _ _ _ _ rfl (spot_set HR5.out) Try.underlying94 rfl (by kernel_rfl)) rfl ?_
          exact ⟨⟨_, _, _, rfl⟩, _, HT5.out.late 7 (spot_mods (by have := HRE.out; omega) _ _ _), fun h => absurd h h0⟩
      · have e : E = ne := by rw [← HEC.out, if_pos h0]
        subst e
        have z0 := HR4.out.cell 0 _ rfl
        have z1 := HR4.out.cell 1 _ rfl
        have z2 := HR4.out.cell 2 _ rfl
        have f0 := HR4.out.frozen 0
        have f1 := HR4.out.frozen 1
        have f2 := HR4.out.frozen 2
        go_wp2
        refine bodyPost_ret_by (results_tmp_row rfl _ _ _ _ _ _ _ rfl (spot_set HR4.out) Try.underlying94 rfl (by kernel_rfl)) rfl ?_
        exact ⟨⟨_, _, _, rfl⟩, _, HT4.out.late 7 (spot_mods (by have := HRE.out; omega) _ _ _), fun h => absurd h h0⟩
    · obtain rfl : j = l.length := by omega
      have hfin := HE.out
      rw [List.drop_length, List.take_length] at hfin
      obtain rfl : E = 0 := hfin.symm
      have hC9 := HC.out
      rw [List.take_length, ] at hC9
      have HC9 := Lib.hid hC9
      clear hfin hC9
      have z0 := HR.out.cell 0 _ rfl
      have z1 := HR.out.cell 1 _ rfl
      have z2 := HR.out.cell 2 _ rfl
      have f0 := HR.out.frozen 0
      have f1 := HR.out.frozen 1
      have f2 := HR.out.frozen 2
      go_wp2
      refine bodyPost_ret_by (results_tmp_row rfl _ _ _ _ _ _ _ rfl (spot_set HR.out) Try.underlying94 rfl (by kernel_rfl)) rfl ?_
      exact ⟨⟨_, _, _, rfl⟩, _, HT.out.late 7 (spot_mods (by have := HRE.out; omega) _ _ _), fun _ => HC9.out.spot HR.out _ _ _⟩
end Go.Proofs.Ytaholpfikcdhbaa

/- A row more on a side of the checker. -/
namespace Go.Proofs.Ytaholpfikcdhbaa
open Go.RowKit

theorem info_bool : (Try.prog.info? 4).map (fun i => (i.zero, i.size, i.bytes)) = some (some (.bool false), 1, 1) := by kernel_rfl
theorem info_bools : (Try.prog.info? 143).map (fun i => (i.zero, i.size, i.bytes)) = some (some (.slice none 0 0), 1, 24) := by kernel_rfl
theorem made_bools (n : Nat) : madeCells (Value.cells (.bool false)) (n * 1) = (bvs (List.replicate n false)).toArray := by
  rw [Nat.mul_one]
  apply Array.toList_inj.1
  simp [madeCells, Value.cells, bvs, Nat.mod_one, List.map_const']
theorem make_bools (w : World) (n : Nat) (h : n ≤ 1000) : (Instr.makeSlice 143 (.int .i64 (n : Int)) (.int .i64 (n : Int))).run Try.prog w = .ok (.slice (some ⟨w.heap.size, 0, none⟩) n n) (w.alloc (.cells (bvs (List.replicate n false)).toArray 4)) := by
  obtain ⟨i0, hi, hz0, hz1, hz2⟩ := info_parts info_bool
  have hr := run_make (P := Try.prog) (w := w) 143 4 i0 _ Try.underlying143 hi hz0 .i64 .i64 (n : Int) (n : Int) (by omega) (Int.le_refl _) (by rw [hz2]; omega) (by omega)
  rw [hz1] at hr
  simp only [Int.toNat_natCast] at hr
  rw [hr, made_bools]

/-- the old blocks keep their colours, the next gets d, the others c -/
def ext2 (o : Col) (n d c : Nat) : Col := fun k => if k < n then o k else if k = n then d else c
theorem ext2_old {o : Col} {n d c k : Nat} (h : k < n) : ext2 o n d c k = o k := by simp [ext2, h]
theorem ext2_at {o : Col} {n d c : Nat} : ext2 o n d c n = d := by simp [ext2]
theorem ext2_new {o : Col} {n d c k : Nat} (h : n < k) : ext2 o n d c k = c := by simp [ext2, Nat.not_lt.2 (Nat.le_of_lt h), Nat.ne_of_gt h]

def rowsV (side : List (List Bool)) (gs : List Nat) : List Value := (List.range side.length).map fun k => .slice (some ⟨gs[k]?.getD 0, 0, none⟩) (side[k]?.getD []).length (side[k]?.getD []).length
theorem rowsV_snoc {side : List (List Bool)} {gs : List Nat} (h : gs.length = side.length) (r : List Bool) (g : Nat) : rowsV (side ++ [r]) (gs ++ [g]) = rowsV side gs ++ [.slice (some ⟨g, 0, none⟩) r.length r.length] := by
  unfold rowsV
  rw [List.length_append, List.length_singleton, List.range_succ, List.map_append]
  congr 1
  · refine List.map_congr_left fun k hk => ?_
    have hk' := List.mem_range.1 hk
    rw [List.getElem?_append_left (by omega), List.getElem?_append_left hk']
  · simp [← h]
theorem rowsV_len (side : List (List Bool)) (gs : List Nat) : (rowsV side gs).length = side.length := by simp [rowsV]

theorem Side.push {w w2 : World} {o : Col} {c d : Nat} {v v' : Value} {side : List (List Bool)} {gs : List Nat} (h : Side w o c d v side gs) (hcd : c ≠ d) (n : Nat) {tmp : Obj}
    (k1 : w2.ownsRow 0 143 1 v' (side.length + 1) (rowsV side gs ++ [.slice (some ⟨w.heap.size, 0, none⟩) n n])) (k2 : ((w.alloc (.cells (bvs (List.replicate n false)).toArray 4)).alloc tmp).grownBy w2 v.ownBlock)
    (k4 : v'.ownBlock = v.ownBlock ∨ v'.ownBlock = some ((w.alloc (.cells (bvs (List.replicate n false)).toArray 4)).alloc tmp).heap.size) :
    Turn o (ext2 o w.heap.size d c) (fun x => x = c) w w2 ∧ Side w2 (ext2 o w.heap.size d c) c d v' (side ++ [List.replicate n false]) (gs ++ [w.heap.size]) := by
  have hown := fun b (hb : v.ownBlock = some b) => h.own.1.lt b hb
  have T : Turn o (ext2 o w.heap.size d c) (fun x => x = c) w w2 :=
    ⟨((((Mods.refl (fun b => v.ownBlock = some b) w).alloc _).alloc tmp).grown k2 (fun b hb _ => hb)).mono (fun b _ hb => h.own.2 b hb), fun k hk => ext2_old hk⟩
  refine ⟨T, ⟨by simp [h.len], ⟨?_, fun b hb => ?_⟩, fun k hk => ?_, fun i j hij hj => ?_⟩⟩
  · have e := rowsV_snoc h.len (List.replicate n false) w.heap.size
    rw [List.length_replicate] at e
    have e2 : (side ++ [List.replicate n false]).length = side.length + 1 := by simp
    rw [e2]
    rw [← e] at k1
    unfold rowsV at k1
    rw [e2] at k1
    exact k1
  · rcases k4 with k4 | k4
    · rw [k4] at hb
      rw [ext2_old (hown b hb).2]
      exact h.own.2 b hb
    · rw [k4] at hb
      have := Option.some.inj hb
      simp at this
      exact ext2_new (by omega)
  · have hk' : k < side.length + 1 := by simpa using hk
    by_cases e : k < side.length
    · rw [List.getElem?_append_left (by have := h.len; omega), List.getElem?_append_left e]
      exact (h.rows k e).turn T (fun e => hcd e.symm)
    · obtain rfl : k = side.length := by omega
      have e1 : (gs ++ [w.heap.size])[side.length]?.getD 0 = w.heap.size := by rw [← h.len]; simp
      have e2 : (side ++ [List.replicate n false])[side.length]?.getD [] = List.replicate n false := by simp
      rw [e1, e2]
      exact ⟨block_grown (block_alloc (heap_alloc_new w _) tmp) k2 (fun e => by have := (hown _ e).2; omega), ext2_at⟩
  · have hj' : j < side.length + 1 := by simpa using hj
    have hi : i < side.length := by omega
    have e1 : (gs ++ [w.heap.size])[i]?.getD 0 = gs[i]?.getD 0 := by rw [List.getElem?_append_left (by have := h.len; omega)]
    rw [e1]
    by_cases e : j < side.length
    · rw [List.getElem?_append_left (by have := h.len; omega)]
      exact h.apart i j hij e
    · obtain rfl : j = side.length := by omega
      have e2 : (gs ++ [w.heap.size])[side.length]?.getD 0 = w.heap.size := by rw [← h.len]; simp
      rw [e2]
      have := (h.rows i hi).lt
      omega

theorem ChkAt.pushI {w w2 : World} {o : Col} {C B : Nat} {X : ChkV} {k : Chk} (h : ChkAt w o C B X k) {gI : List Nat} (hs : Side w o 3 4 X.vI k.ins gI) (n : Nat) {tmp : Obj} {v' : Value}
    (k1 : w2.ownsRow 0 143 1 v' (k.ins.length + 1) (rowsV k.ins gI ++ [.slice (some ⟨w.heap.size, 0, none⟩) n n])) (k2 : ((w.alloc (.cells (bvs (List.replicate n false)).toArray 4)).alloc tmp).grownBy w2 X.vI.ownBlock)
    (k4 : v'.ownBlock = X.vI.ownBlock ∨ v'.ownBlock = some ((w.alloc (.cells (bvs (List.replicate n false)).toArray 4)).alloc tmp).heap.size) :
    (w2.cell? ⟨C, 6, none⟩ = some X.vI ∧ w2.frozen? ⟨C, 6, none⟩ = false) ∧ Turn o (ext2 o w.heap.size 4 3) ChkC w (w2.setCell ⟨C, 6, none⟩ v') ∧ ChkAt (w2.setCell ⟨C, 6, none⟩ v') (ext2 o w.heap.size 4 3) C B ⟨X.name, X.va, X.ve, X.vi, X.vo, v', X.vO⟩ ⟨k.seen, k.ins ++ [List.replicate n false], k.outs⟩ := by
  obtain ⟨D, m, gI', gO, h1, h2, h3, h4, h5, h6, h7⟩ := h.st
  obtain ⟨T, S⟩ := hs.push (by decide) n k1 k2 k4
  obtain ⟨m1, m2⟩ := map_turn h2 T (by rw [h3]; decide)
  have b1 := h1.turn T (by decide)
  have b7 := h7.turn T (by decide) (by decide)
  obtain ⟨b2, T2⟩ := b1.set 6 v'
  obtain ⟨m3, m4⟩ := map_turn m1 T2 (by rw [m2, h3]; decide)
  refine ⟨⟨b1.cell 6 _ rfl, b1.frozen 6⟩, (T.mono (fun x e => by subst e; unfold ChkC; omega)).trans T2 (fun x e => by subst e; unfold ChkC; omega), D, m, _, gO, ?_, m3, m2.trans h3, h4, h5, S.turn T2 (by decide) (by decide), b7.turn T2 (by decide) (by decide)⟩
  exact b2
theorem ChkAt.pushO {w w2 : World} {o : Col} {C B : Nat} {X : ChkV} {k : Chk} (h : ChkAt w o C B X k) {gO : List Nat} (hs : Side w o 5 6 X.vO k.outs gO) (n : Nat) {tmp : Obj} {v' : Value}
    (k1 : w2.ownsRow 0 143 1 v' (k.outs.length + 1) (rowsV k.outs gO ++ [.slice (some ⟨w.heap.size, 0, none⟩) n n])) (k2 : ((w.alloc (.cells (bvs (List.replicate n false)).toArray 4)).alloc tmp).grownBy w2 X.vO.ownBlock)
    (k4 : v'.ownBlock = X.vO.ownBlock ∨ v'.ownBlock = some ((w.alloc (.cells (bvs (List.replicate n false)).toArray 4)).alloc tmp).heap.size) :
    (w2.cell? ⟨C, 7, none⟩ = some X.vO ∧ w2.frozen? ⟨C, 7, none⟩ = false) ∧ Turn o (ext2 o w.heap.size 6 5) ChkC w (w2.setCell ⟨C, 7, none⟩ v') ∧ ChkAt (w2.setCell ⟨C, 7, none⟩ v') (ext2 o w.heap.size 6 5) C B ⟨X.name, X.va, X.ve, X.vi, X.vo, X.vI, v'⟩ ⟨k.seen, k.ins, k.outs ++ [List.replicate n false]⟩ := by
  obtain ⟨D, m, gI, gO', h1, h2, h3, h4, h5, h6, h7⟩ := h.st
  obtain ⟨T, S⟩ := hs.push (by decide) n k1 k2 k4
  obtain ⟨m1, m2⟩ := map_turn h2 T (by rw [h3]; decide)
  have b1 := h1.turn T (by decide)
  have b6 := h6.turn T (by decide) (by decide)
  obtain ⟨b2, T2⟩ := b1.set 7 v'
  obtain ⟨m3, m4⟩ := map_turn m1 T2 (by rw [m2, h3]; decide)
  refine ⟨⟨b1.cell 7 _ rfl, b1.frozen 7⟩, (T.mono (fun x e => by subst e; unfold ChkC; omega)).trans T2 (fun x e => by subst e; unfold ChkC; omega), D, m, gI, _, ?_, m3, m2.trans h3, h4, h5, b6.turn T2 (by decide) (by decide), S.turn T2 (by decide) (by decide)⟩
  exact b2
end Go.Proofs.Ytaholpfikcdhbaa

/- The checker's actors. -/
namespace Go.Proofs.Ytaholpfikcdhbaa
open Go.RowKit


/-- what 'actors' answers -/
def ChkRetA (w : World) (o : Col) (C B : Nat) (X : ChkV) (E : Int) (k : Chk) (e : Ending) (w' : World) : Prop := SpotRet E e ∧ ∃ o' vI vO, Turn o o' ChkC w w' ∧ (E = 0 → ChkAt w' o' C B ⟨X.name, X.va, X.ve, X.vi, X.vo, vI, vO⟩ k)

theorem actorsE_cons {c : Chk} {l : List GActor} {j : Nat} (h : j < l.length) : actorsE c (l.drop j) = if actorE c.seen l[j] ≠ 0 then actorE c.seen l[j] else actorsE (actorC c l[j]) (l.drop (j + 1)) := by
  rw [List.drop_eq_getElem_cons h, actorsE]
theorem actorsC_snoc {c : Chk} {l : List GActor} {j : Nat} (h : j < l.length) : actorsC c (l.take (j + 1)) = actorC (actorsC c (l.take j)) l[j] := by
  rw [List.take_succ_eq_append_getElem h, actorsC, List.foldl_append]; rfl
theorem actorsC_seen (l : List GActor) : ∀ c : Chk, (actorsC c l).seen = c.seen ++ l.map GActor.name := by
  induction l with
  | nil => intro c; simp [actorsC]
  | cons a r ih => intro c; rw [show actorsC c (a :: r) = actorsC (actorC c a) r from rfl, ih]; simp [actorC]
theorem actorsC_rows (l : List GActor) : ∀ c : Chk, (actorsC c l).ins.length = c.ins.length + l.length ∧ (actorsC c l).outs.length = c.outs.length + l.length := by
  induction l with
  | nil => intro c; simp [actorsC]
  | cons a r ih => intro c; rw [show actorsC c (a :: r) = actorsC (actorC c a) r from rfl, (ih _).1, (ih _).2]; simp [actorC]; omega
theorem shape_len {t : Int} {ps : List Int} (h : goodP t ps) : (insP t ps).length ≤ 16 ∧ (outsP t ps).length ≤ 16 := by
  have h1 : oneP ps 16 → (hd ps).toNat ≤ 16 := fun h => by unfold oneP at h; omega
  have h2 : pairP ps → (hd ps).toNat ≤ 16 := fun h => by unfold pairP at h; omega
  unfold goodP at h
  rcases h with ⟨rfl, h⟩ | ⟨rfl, h⟩ | ⟨rfl, h⟩ | ⟨rfl, h⟩ | ⟨rfl, h⟩ | ⟨rfl, h⟩ | ⟨rfl, h⟩ | ⟨rfl, h⟩ | ⟨rfl, h⟩ | ⟨rfl, h⟩ | ⟨rfl, h⟩ <;> simp [insP, outsP] <;> first | (have := h1 h; omega) | (have := h2 h; omega) | skip


set_option maxRecDepth 100000 in
set_option maxHeartbeats 4000000 in
theorem gactors_any (w0 w : World) (o : Col) (C B : Nat) (X : ChkV) (k : Chk) (l : List GActor) (hv : Recs w0 3 ActorR X.va l) (K : Kept w0.heap.size o w0 w) (hn : k.seen.length + l.length ≤ 1000000) (hi0 : k.ins.length + l.length ≤ 1000000) (ho0 : k.outs.length + l.length ≤ 1000000)
    (hs : ∀ p ∈ l, p.name.size ≤ 4611686018427387904 ∧ p.params.length ≤ 17600000000000) (h : ChkAt w o C B X k) :
    Calls Try.prog 35 #[.pointer (some ⟨C, 0, none⟩)] w (ChkRetA w o C B X (actorsE k l) (actorsC k l)) := by
  obtain ⟨i1, bi, bz0, bz1, bz2⟩ := info_parts info_bools
  obtain ⟨ao, cap, hve⟩ := hv.slice
  rw [hve] at hv
  obtain ⟨E, hE⟩ : ∃ E, actorsE k l = E := ⟨_, rfl⟩
  rw [hE]
  have HE := Lib.hid (show actorsE (actorsC k (l.take 0)) (l.drop 0) = E by simpa [actorsC] using hE)
  have HV := Lib.hid hv
  have HVE := Lib.hid hve
  have HN := Lib.hid hn
  have HI := Lib.hid hi0
  have HO := Lib.hid ho0
  have HSZ := Lib.hid hs
  have hbR := below_alloc w (.cells #[.int .u8 0, .int .i64 0, .int .i64 0] 94)
  have HT0 := Lib.hid ((Turn.of_below o 7 hbR).mono (D := ChkC) (fun _ h => h.elim))
  have HK0 := Lib.hid (K.of_below 7 hbR)
  have hC0 := h.below 7 hbR
  have q1 := hC0.cells.2.1
  rw [hve] at q1
  have HC0 : Hid (ChkAt _ _ C B X (actorsC k (l.take 0))) := Lib.hid (by simpa [actorsC] using hC0)
  have HR0 := Lib.hid (spot_new w o 7)
  clear hE hv hve hn hi0 ho0 hs K h hbR hC0
  go_enter Try.func35, Try.ntmps35
  go_wp2_with fail
  clear q1
  obtain ⟨R, hR⟩ : ∃ R, w.heap.size = R := ⟨_, rfl⟩
  have HRE := Lib.hid hR
  rw [hR] at HR0 HT0 HK0 HC0 ⊢
  clear hR
  go_loopw [15] (fun i wr => ∃ (j : Nat) (q : Col) (vI vO : Value), j ≤ l.length ∧ i = .int .i64 j ∧ Kept w0.heap.size q w0 wr ∧ Turn o q ChkC w wr ∧ Blk wr q 7 R 94 #[.int .u8 0, .int .i64 0, .int .i64 0] ∧ ChkAt wr q C B ⟨X.name, X.va, X.ve, X.vi, X.vo, vI, vO⟩ (actorsC k (l.take j)) ∧ actorsE (actorsC k (l.take j)) (l.drop j) = E) (fun i _ => l.length - (intOf i).toNat)
  case atStart => exact ⟨0, _, X.vI, X.vO, Nat.zero_le _, rfl, HK0.out, HT0.out, HR0.out, HC0.out, HE.out⟩
  case round =>
    clear HK0 HT0 HR0 HC0 HE
    obtain ⟨j, q, vI, vO, hj, rfl, hK, hT, hR, hC, hE⟩ := hrel
    have HK := Lib.hid hK
    have HT := Lib.hid hT
    have HR := Lib.hid hR
    have HC := Lib.hid hC
    have HE := Lib.hid hE
    clear hK hT hR hC hE
    by_cases hlt : j < l.length
    · have hlti : (j : Int) < l.length := by omega
      obtain ⟨b0, off, rfl, hcap, hb0, hrec⟩ := HV.out.at (by omega)
      obtain ⟨cs, hcs, hPR, hcl⟩ := hrec j hlt
      obtain ⟨xs, rfl, hst⟩ := hPR
      have c0 := cell_later HK.out.below (hcl 0 (by omega))
      have c1 := cell_later HK.out.below (hcl 1 (by omega))
      have c2 := cell_later HK.out.below (hcl 2 (by omega))
      simp at c0 c1 c2
      have hcapi : (l.length : Int) ≤ cap := by omega
      have hEc := HE.out
      rw [actorsE_cons hlt] at hEc
      have HEC := Lib.hid hEc
      have HCn := Lib.hid (actorsC_snoc (c := k) hlt)
      have hpz := HSZ.out l[j] (List.getElem_mem hlt)
      have hsl : (actorsC k (l.take j)).seen.length ≤ 1000000 := by rw [actorsC_seen]; have := HN.out; simp; omega
      have hil : (actorsC k (l.take j)).ins.length ≤ 1000000 := by rw [(actorsC_rows _ _).1]; have := HI.out; simp; omega
      have hol : (actorsC k (l.take j)).outs.length ≤ 1000000 := by rw [(actorsC_rows _ _).2]; have := HO.out; simp; omega
      have hst2 : Has w0 xs (ivs l[j].params) := hst
      obtain ⟨sa, sc, hxs⟩ := Ints.slice hst2
      subst hxs
      have HST := Lib.hid hst2
      clear hcl hcs hrec hst hst2 hEc HE
      generalize l[j] = p at *
      obtain ⟨kk, hkk⟩ : ∃ x, actorsC k (l.take j) = x := ⟨_, rfl⟩
      rw [hkk] at HEC HC HCn hsl hil hol
      clear hkk
      have hbX := below_alloc wr (.cells #[.string p.name, .int .u8 p.tag, .slice sa p.params.length sc] 75)
      have hX : Blk (wr.alloc (.cells #[.string p.name, .int .u8 p.tag, .slice sa p.params.length sc] 75)) (ext q wr.heap.size 8) 8 wr.heap.size 75 #[.string p.name, .int .u8 p.tag, .slice sa p.params.length sc] := ⟨heap_alloc_new wr _, ext_new (Nat.le_refl _)⟩
      have hTX := (Turn.of_below q 8 hbX).mono (D := ChkC) (fun _ h => h.elim)
      have HK2 := Lib.hid (HK.out.of_below 8 hbX)
      have HT2 := Lib.hid (HT.out.trans hTX (fun _ h => h))
      have HR2 := Lib.hid (HR.out.turn (Turn.of_below q 8 hbX) (fun h => h))
      have HC2 := Lib.hid (HC.out.below 8 hbX)
      have HX := Lib.hid hX
      clear hbX hX hTX HK HT HR HC
      go_wp2_with fail
      refine (gname_any _ (ext q wr.heap.size 8) C B _ kk p.name hpz.1 hsl HC2.out).mono ?_
      rintro e w4 ⟨rfl, o4, T40, hC4⟩
      have T4 := T40.mono (D := ChkC) (fun x e => by subst e; unfold ChkC; omega)
      have HK4 := Lib.hid (HK2.out.turn T4 (by unfold ChkC; omega))
      have HT4 := Lib.hid (HT2.out.trans T4 (fun _ h => h))
      have HR4 := Lib.hid (HR2.out.turn T4 (by unfold ChkC; omega))
      have HX4 := Lib.hid (HX.out.turn T4 (by unfold ChkC; omega))
      have HC4 := Lib.hid hC4
      clear T40 T4 hC4 HK2 HT2 HR2 HC2 HX
      obtain ⟨ne, hne⟩ : ∃ x, nameE kk.seen p.name = x := ⟨_, rfl⟩
      rw [hne] at HC4 ⊢
      have HNE := Lib.hid hne
      clear hne
      by_cases h0 : ne = 0
      · subst h0
        have HC5 := Lib.hid (HC4.out rfl)
        have x1 := HX4.out.cell 1 _ rfl
        have x2 := HX4.out.cell 2 _ rfl
        have HP4 : Hid (Has w4 (.slice sa p.params.length sc) (ivs p.params)) := Lib.hid (HST.out.below HK4.out.below)
        clear HC4
        go_wp2_with fail
        by_cases hg : goodP p.tag p.params
        · have HG := Lib.hid hg
          have HSL := Lib.hid (shape_len hg)
          refine (of_ok _ p.tag sa _ sc p.params hg hpz.2 HP4.out).mono ?_
          rintro e w5 ⟨vi, vo, rfl, p1, p2, hb5⟩
          obtain ⟨a1, c1', rfl⟩ := owns_slice p1
          obtain ⟨a2, c2', rfl⟩ := owns_slice p2
          have HK5 := Lib.hid (HK4.out.of_below 9 hb5)
          have HT5 := Lib.hid (HT4.out.trans ((Turn.of_below o4 9 hb5).mono (D := ChkC) (fun _ h => h.elim)) (fun _ h => h))
          have HR5 := Lib.hid (HR4.out.turn (Turn.of_below o4 9 hb5) (fun h => h))
          have HC6 := Lib.hid (HC5.out.below 9 hb5)
          clear p1 p2 hb5 HK4 HT4 HR4 HX4 HC5 HP4 x1 x2 hg
          generalize ext o4 w4.heap.size 9 = q5 at *
          obtain ⟨n1, hn1⟩ : ∃ n, (insP p.tag p.params).length = n := ⟨_, rfl⟩
          obtain ⟨n2, hn2⟩ : ∃ n, (outsP p.tag p.params).length = n := ⟨_, rfl⟩
          have HN1 := Lib.hid hn1
          have HN2 := Lib.hid hn2
          rw [hn1, hn2] at HSL ⊢
          have hn16 := HSL.out
          clear hn1 hn2 HSL
          go_wp2_with fail
          obtain ⟨gI, hSI⟩ := HC6.out.ins
          have hown := hSI.own.1
          obtain ⟨ia, ic, hIv⟩ := hSI.own.slice
          have y6 := HC6.out.cells.2.2.2.2.2.2.1
          have hFZ := HC6.out.froz 6
          rw [hIv] at y6 hown
          have hr := make_bools (w5).drew n1 (by omega)
          have HSI := Lib.hid hSI
          have HIV := Lib.hid hIv
          have hlen := hil
          clear hSI hIv
          have y6a := ca (o := .cells (bvs (List.replicate n1 false)).toArray 4) (w := w5) y6
          refine wp_region_rest (fun w' => w'.cell? ⟨C, 6, none⟩ = some (.slice ia kk.ins.length ic)) [0, 1, 2, 3, 4, 5, 6] [7, 9] 6 (by kernel_rfl) (by kernel_rfl) rfl y6 ?_
          intro Q' hQ'
          simp only [pickOps, List.flatMap_cons, List.flatMap_nil, List.drop_succ_cons, List.drop_zero, List.take_succ_cons, List.take_zero, List.cons_append, List.nil_append, List.append_nil]
          repeat (first
            | (refine wpReads_skip (by rfl) ?_; (try simp only [Act.put, List.setIfInBounds_toArray, List.set_cons_zero, List.set_cons_succ]))
            | (refine wpReads_cons ?_ (by rfl) (by rfl) ?_ ?_; rotate_left; (intro wz hz; (try dsimp only at hz); go_simp; try with_reducible rfl); (try simp only [Act.put, List.setIfInBounds_toArray, List.set_cons_zero, List.set_cons_succ]))
            | (refine wpReads_any ?_ (by rfl) ?_ ?_; rotate_left; (intro wz; go_simp; try with_reducible rfl); (try simp only [Act.put, List.setIfInBounds_toArray, List.set_cons_zero, List.set_cons_succ])))
          refine wpReads_nil ?_
          refine wpAnyT_one (i := 7) (by kernel_rfl) ?_
          simp only [pickOps, List.flatMap_cons, List.flatMap_nil, List.drop_succ_cons, List.drop_zero, List.take_succ_cons, List.take_zero, List.append_nil]
          go_wp2
          refine ⟨by first | exact fun _ _ => y6a | exact fun _ => y6a, ?_⟩
          refine wpAnyT_one (i := 8) (by kernel_rfl) ?_
          simp only [pickOps, List.flatMap_cons, List.flatMap_nil, List.drop_succ_cons, List.drop_zero, List.take_succ_cons, List.take_zero, List.append_nil]
          go_wp2
          refine ⟨by first | exact fun _ h => ca h | exact fun _ => ca y6a, ?_⟩
          refine wpAnyT_one (i := 9) (by kernel_rfl) ?_
          simp only [pickOps, List.flatMap_cons, List.flatMap_nil, List.drop_succ_cons, List.drop_zero, List.take_succ_cons, List.take_zero, List.append_nil]
          go_wp2_with (at_builtin; refine stop_here ?_)
          refine go_on ?_
          have hown2 : (((w5).alloc (.cells (bvs (List.replicate n1 false)).toArray 4)).alloc (.cells #[.slice (some ⟨(w5).heap.size, 0, none⟩) n1 n1] 143)).ownsRow 0 143 1 (.slice ia kk.ins.length ic) kk.ins.length (rowsV kk.ins gI) := (hown.alloc _).alloc _
          refine wpList_app rfl _ _ 104 rfl 0 143 i1 _ 1 24 Try.underlying104 bi bz0 bz1 bz2 rfl (.slice ia kk.ins.length ic) kk.ins.length _ rfl hown2 (some ⟨(w5).heap.size + 1, 0, none⟩) 1 1 [.slice (some ⟨(w5).heap.size, 0, none⟩) n1 n1] rfl rfl (fun h => by cases h) (by simpa using news_alloc ((w5).alloc (.cells (bvs (List.replicate n1 false)).toArray 4)) [.slice (some ⟨(w5).heap.size, 0, none⟩) n1 n1] 143) (by simp [Value.oneCell']) (by unfold maxLen; omega) (grow_ok (by omega)) (Nat.zero_le _) ?_
          intro v7 w7 k1 k20 _ k4
          have k2 : (((w5).alloc (.cells (bvs (List.replicate n1 false)).toArray 4)).alloc (.cells #[.slice (some ⟨(w5).heap.size, 0, none⟩) n1 n1] 143)).grownBy w7 (Value.slice ia kk.ins.length ic).ownBlock := ⟨k20.os, k20.tape, k20.output, k20.size, k20.block⟩
          have k4' : v7.ownBlock = (Value.slice ia kk.ins.length ic).ownBlock ∨ v7.ownBlock = some (((w5).alloc (.cells (bvs (List.replicate n1 false)).toArray 4)).alloc (.cells #[.slice (some ⟨(w5).heap.size, 0, none⟩) n1 n1] 143)).heap.size := k4
          obtain ⟨s7, c7, rfl⟩ := owns_slice k1
          obtain ⟨⟨z6, zf⟩, TP, CP⟩ := HC6.out.pushI HSI.out n1 k1 (by rw [HIV.out]; exact k2) (by rw [HIV.out]; exact k4')
          rw [HIV.out] at z6
          have HK7 := Lib.hid (HK5.out.turn TP (by unfold ChkC; omega))
          have HT7 := Lib.hid (HT5.out.trans TP (fun _ h => h))
          have HR7 := Lib.hid (HR5.out.turn TP (by unfold ChkC; omega))
          have HC7 := Lib.hid CP
          clear TP CP k1 k2 k20 k4 k4' hown hown2 hr y6 y6a hFZ HK5 HT5 HR5 HC6 HSI
          refine ⟨by first | exact fun _ _ => z6 | exact fun _ => z6, ?_⟩
          refine wpAnyT_list (ks := [10, 11, 12]) (fun _ _ hx h => hx.cell h) (by kernel_rfl) ?_
          simp only [pickOps, List.flatMap_cons, List.flatMap_nil, List.drop_succ_cons, List.drop_zero, List.take_succ_cons, List.take_zero, List.cons_append, List.nil_append, List.append_nil]
          go_wp2_with fail
          clear HIV z6 zf
          generalize w7.setCell ⟨C, 6, none⟩ (.slice s7 (kk.ins.length + 1) c7) = w8 at *
          generalize ext2 q5 w5.heap.size 4 3 = q8 at *
          obtain ⟨gO, hSI⟩ := HC7.out.outs
          have hown := hSI.own.1
          obtain ⟨ia, ic, hIv⟩ := hSI.own.slice
          have y6 := HC7.out.cells.2.2.2.2.2.2.2
          have hFZ := HC7.out.froz 7
          rw [hIv] at y6 hown
          have hr := make_bools (w8).drew n2 (by omega)
          have HSI := Lib.hid hSI
          have HIV := Lib.hid hIv
          have hlen := hol
          clear hSI hIv
          have y6a := ca (o := .cells (bvs (List.replicate n2 false)).toArray 4) (w := w8) y6
          refine wp_region_rest (fun w' => w'.cell? ⟨C, 7, none⟩ = some (.slice ia kk.outs.length ic)) [0, 1, 2, 3, 4, 5, 6] [7, 9] 6 (by kernel_rfl) (by kernel_rfl) rfl y6 ?_
          intro Q' hQ'
          simp only [pickOps, List.flatMap_cons, List.flatMap_nil, List.drop_succ_cons, List.drop_zero, List.take_succ_cons, List.take_zero, List.cons_append, List.nil_append, List.append_nil]
          repeat (first
            | (refine wpReads_skip (by rfl) ?_; (try simp only [Act.put, List.setIfInBounds_toArray, List.set_cons_zero, List.set_cons_succ]))
            | (refine wpReads_cons ?_ (by rfl) (by rfl) ?_ ?_; rotate_left; (intro wz hz; (try dsimp only at hz); go_simp; try with_reducible rfl); (try simp only [Act.put, List.setIfInBounds_toArray, List.set_cons_zero, List.set_cons_succ]))
            | (refine wpReads_any ?_ (by rfl) ?_ ?_; rotate_left; (intro wz; go_simp; try with_reducible rfl); (try simp only [Act.put, List.setIfInBounds_toArray, List.set_cons_zero, List.set_cons_succ])))
          refine wpReads_nil ?_
          refine wpAnyT_one (i := 7) (by kernel_rfl) ?_
          simp only [pickOps, List.flatMap_cons, List.flatMap_nil, List.drop_succ_cons, List.drop_zero, List.take_succ_cons, List.take_zero, List.append_nil]
          go_wp2
          refine ⟨by first | exact fun _ _ => y6a | exact fun _ => y6a, ?_⟩
          refine wpAnyT_one (i := 8) (by kernel_rfl) ?_
          simp only [pickOps, List.flatMap_cons, List.flatMap_nil, List.drop_succ_cons, List.drop_zero, List.take_succ_cons, List.take_zero, List.append_nil]
          go_wp2
          refine ⟨by first | exact fun _ h => ca h | exact fun _ => ca y6a, ?_⟩
          refine wpAnyT_one (i := 9) (by kernel_rfl) ?_
          simp only [pickOps, List.flatMap_cons, List.flatMap_nil, List.drop_succ_cons, List.drop_zero, List.take_succ_cons, List.take_zero, List.append_nil]
          go_wp2_with (at_builtin; refine stop_here ?_)
          refine go_on ?_
          have hown2 : (((w8).alloc (.cells (bvs (List.replicate n2 false)).toArray 4)).alloc (.cells #[.slice (some ⟨(w8).heap.size, 0, none⟩) n2 n2] 143)).ownsRow 0 143 1 (.slice ia kk.outs.length ic) kk.outs.length (rowsV kk.outs gO) := (hown.alloc _).alloc _
          refine wpList_app rfl _ _ 104 rfl 0 143 i1 _ 1 24 Try.underlying104 bi bz0 bz1 bz2 rfl (.slice ia kk.outs.length ic) kk.outs.length _ rfl hown2 (some ⟨(w8).heap.size + 1, 0, none⟩) 1 1 [.slice (some ⟨(w8).heap.size, 0, none⟩) n2 n2] rfl rfl (fun h => by cases h) (by simpa using news_alloc ((w8).alloc (.cells (bvs (List.replicate n2 false)).toArray 4)) [.slice (some ⟨(w8).heap.size, 0, none⟩) n2 n2] 143) (by simp [Value.oneCell']) (by unfold maxLen; omega) (grow_ok (by omega)) (Nat.zero_le _) ?_
          intro v7 w7 k1 k20 _ k4
          have k2 : (((w8).alloc (.cells (bvs (List.replicate n2 false)).toArray 4)).alloc (.cells #[.slice (some ⟨(w8).heap.size, 0, none⟩) n2 n2] 143)).grownBy w7 (Value.slice ia kk.outs.length ic).ownBlock := ⟨k20.os, k20.tape, k20.output, k20.size, k20.block⟩
          have k4' : v7.ownBlock = (Value.slice ia kk.outs.length ic).ownBlock ∨ v7.ownBlock = some (((w8).alloc (.cells (bvs (List.replicate n2 false)).toArray 4)).alloc (.cells #[.slice (some ⟨(w8).heap.size, 0, none⟩) n2 n2] 143)).heap.size := k4
          obtain ⟨s9, c9, rfl⟩ := owns_slice k1
          obtain ⟨⟨z6, zf⟩, TP, CP⟩ := HC7.out.pushO HSI.out n2 k1 (by rw [HIV.out]; exact k2) (by rw [HIV.out]; exact k4')
          rw [HIV.out] at z6
          have HK9 := Lib.hid (HK7.out.turn TP (by unfold ChkC; omega))
          have HT9 := Lib.hid (HT7.out.trans TP (fun _ h => h))
          have HR9 := Lib.hid (HR7.out.turn TP (by unfold ChkC; omega))
          have HC9 := Lib.hid CP
          clear TP CP k1 k2 k20 k4 k4' hown hown2 hr y6 y6a hFZ HK7 HT7 HR7 HC7 HSI
          refine ⟨by first | exact fun _ _ => z6 | exact fun _ => z6, ?_⟩
          refine wpAnyT_list (ks := [10, 11, 12]) (fun _ _ hx h => hx.cell h) (by kernel_rfl) ?_
          simp only [pickOps, List.flatMap_cons, List.flatMap_nil, List.drop_succ_cons, List.drop_zero, List.take_succ_cons, List.take_zero, List.cons_append, List.nil_append, List.append_nil]
          have hEE : E = actorsE (actorC kk p) (l.drop (j + 1)) := by rw [← HEC.out, actorE, HNE.out]; simp [HG.out]
          have HEE := Lib.hid hEE
          have HAC : Hid (actorC kk p = ⟨kk.seen ++ [p.name], kk.ins ++ [List.replicate n1 false], kk.outs ++ [List.replicate n2 false]⟩) := Lib.hid (by rw [← HN1.out, ← HN2.out]; rfl)
          clear hEE
          have hnn := HN.out
          go_wp2
          go_roundw
          case rel => exact ⟨j + 1, _, _, _, hlt, by go_num, HK9.out, HT9.out, HR9.out, by rw [HCn.out, HAC.out]; exact HC9.out, by rw [HCn.out]; exact HEE.out.symm⟩
          case measure => simp [intOf]; omega
        · have HG := Lib.hid hg
          refine (of_no _ p.tag sa _ sc p.params hg hpz.2 HP4.out).mono ?_
          rintro e w5 ⟨he, hb5⟩
          obtain ⟨x, hx⟩ : ∃ x, errP p.tag = x := ⟨_, rfl⟩
          obtain ⟨z, hz⟩ : ∃ z : Nat, z = 0 := ⟨_, rfl⟩
          have hz16 : z ≤ 16 := by omega
          have he' : e = .returned (.tuple #[.slice none z 0, .slice none z 0, .int .i64 x]) := by rw [he, hz, hx]
          subst he'
          clear he hz
          have HK5 := Lib.hid (HK4.out.of_below 9 hb5)
          have HT5 := Lib.hid (HT4.out.trans ((Turn.of_below o4 9 hb5).mono (D := ChkC) (fun _ h => h.elim)) (fun _ h => h))
          have HR5 := Lib.hid (HR4.out.turn (Turn.of_below o4 9 hb5) (fun h => h))
          have HC6 := Lib.hid (HC5.out.below 9 hb5)
          clear hb5 HK4 HT4 HR4 HX4 HC5 HP4 x1 x2 hg
          generalize ext o4 w4.heap.size 9 = q5 at *
          have hx0 : ¬ x = 0 := by rw [← hx]; unfold errP; split <;> decide
          have hEE : E = x := by rw [← HEC.out, actorE, HNE.out]; simp [HG.out, hx, hx0]
          subst hEE
          clear hx
          go_wp2_with fail
          obtain ⟨gI, hSI⟩ := HC6.out.ins
          have hown := hSI.own.1
          obtain ⟨ia, ic, hIv⟩ := hSI.own.slice
          have y6 := HC6.out.cells.2.2.2.2.2.2.1
          have hFZ := HC6.out.froz 6
          rw [hIv] at y6 hown
          have hr := make_bools (w5).drew z (by omega)
          have HSI := Lib.hid hSI
          have HIV := Lib.hid hIv
          have hlen := hil
          clear hSI hIv
          have y6a := ca (o := .cells (bvs (List.replicate z false)).toArray 4) (w := w5) y6
          refine wp_region_rest (fun w' => w'.cell? ⟨C, 6, none⟩ = some (.slice ia kk.ins.length ic)) [0, 1, 2, 3, 4, 5, 6] [7, 9] 6 (by kernel_rfl) (by kernel_rfl) rfl y6 ?_
          intro Q' hQ'
          simp only [pickOps, List.flatMap_cons, List.flatMap_nil, List.drop_succ_cons, List.drop_zero, List.take_succ_cons, List.take_zero, List.cons_append, List.nil_append, List.append_nil]
          repeat (first
            | (refine wpReads_skip (by rfl) ?_; (try simp only [Act.put, List.setIfInBounds_toArray, List.set_cons_zero, List.set_cons_succ]))
            | (refine wpReads_cons ?_ (by rfl) (by rfl) ?_ ?_; rotate_left; (intro wz hz; (try dsimp only at hz); go_simp; try with_reducible rfl); (try simp only [Act.put, List.setIfInBounds_toArray, List.set_cons_zero, List.set_cons_succ]))
            | (refine wpReads_any ?_ (by rfl) ?_ ?_; rotate_left; (intro wz; go_simp; try with_reducible rfl); (try simp only [Act.put, List.setIfInBounds_toArray, List.set_cons_zero, List.set_cons_succ])))
          refine wpReads_nil ?_
          refine wpAnyT_one (i := 7) (by kernel_rfl) ?_
          simp only [pickOps, List.flatMap_cons, List.flatMap_nil, List.drop_succ_cons, List.drop_zero, List.take_succ_cons, List.take_zero, List.append_nil]
          go_wp2
          refine ⟨by first | exact fun _ _ => y6a | exact fun _ => y6a, ?_⟩
          refine wpAnyT_one (i := 8) (by kernel_rfl) ?_
          simp only [pickOps, List.flatMap_cons, List.flatMap_nil, List.drop_succ_cons, List.drop_zero, List.take_succ_cons, List.take_zero, List.append_nil]
          go_wp2
          refine ⟨by first | exact fun _ h => ca h | exact fun _ => ca y6a, ?_⟩
          refine wpAnyT_one (i := 9) (by kernel_rfl) ?_
          simp only [pickOps, List.flatMap_cons, List.flatMap_nil, List.drop_succ_cons, List.drop_zero, List.take_succ_cons, List.take_zero, List.append_nil]
          go_wp2_with (at_builtin; refine stop_here ?_)
          refine go_on ?_
          have hown2 : (((w5).alloc (.cells (bvs (List.replicate z false)).toArray 4)).alloc (.cells #[.slice (some ⟨(w5).heap.size, 0, none⟩) z z] 143)).ownsRow 0 143 1 (.slice ia kk.ins.length ic) kk.ins.length (rowsV kk.ins gI) := (hown.alloc _).alloc _
          refine wpList_app rfl _ _ 104 rfl 0 143 i1 _ 1 24 Try.underlying104 bi bz0 bz1 bz2 rfl (.slice ia kk.ins.length ic) kk.ins.length _ rfl hown2 (some ⟨(w5).heap.size + 1, 0, none⟩) 1 1 [.slice (some ⟨(w5).heap.size, 0, none⟩) z z] rfl rfl (fun h => by cases h) (by simpa using news_alloc ((w5).alloc (.cells (bvs (List.replicate z false)).toArray 4)) [.slice (some ⟨(w5).heap.size, 0, none⟩) z z] 143) (by simp [Value.oneCell']) (by unfold maxLen; omega) (grow_ok (by omega)) (Nat.zero_le _) ?_
          intro v7 w7 k1 k20 _ k4
          have k2 : (((w5).alloc (.cells (bvs (List.replicate z false)).toArray 4)).alloc (.cells #[.slice (some ⟨(w5).heap.size, 0, none⟩) z z] 143)).grownBy w7 (Value.slice ia kk.ins.length ic).ownBlock := ⟨k20.os, k20.tape, k20.output, k20.size, k20.block⟩
          have k4' : v7.ownBlock = (Value.slice ia kk.ins.length ic).ownBlock ∨ v7.ownBlock = some (((w5).alloc (.cells (bvs (List.replicate z false)).toArray 4)).alloc (.cells #[.slice (some ⟨(w5).heap.size, 0, none⟩) z z] 143)).heap.size := k4
          obtain ⟨s7, c7, rfl⟩ := owns_slice k1
          obtain ⟨⟨z6, zf⟩, TP, CP⟩ := HC6.out.pushI HSI.out z k1 (by rw [HIV.out]; exact k2) (by rw [HIV.out]; exact k4')
          rw [HIV.out] at z6
          have HK7 := Lib.hid (HK5.out.turn TP (by unfold ChkC; omega))
          have HT7 := Lib.hid (HT5.out.trans TP (fun _ h => h))
          have HR7 := Lib.hid (HR5.out.turn TP (by unfold ChkC; omega))
          have HC7 := Lib.hid CP
          clear TP CP k1 k2 k20 k4 k4' hown hown2 hr y6 y6a hFZ HK5 HT5 HR5 HC6 HSI
          refine ⟨by first | exact fun _ _ => z6 | exact fun _ => z6, ?_⟩
          refine wpAnyT_list (ks := [10, 11, 12]) (fun _ _ hx h => hx.cell h) (by kernel_rfl) ?_
          simp only [pickOps, List.flatMap_cons, List.flatMap_nil, List.drop_succ_cons, List.drop_zero, List.take_succ_cons, List.take_zero, List.cons_append, List.nil_append, List.append_nil]
          go_wp2_with fail
          clear HIV z6 zf
          generalize w7.setCell ⟨C, 6, none⟩ (.slice s7 (kk.ins.length + 1) c7) = w8 at *
          generalize ext2 q5 w5.heap.size 4 3 = q8 at *
          obtain ⟨gO, hSI⟩ := HC7.out.outs
          have hown := hSI.own.1
          obtain ⟨ia, ic, hIv⟩ := hSI.own.slice
          have y6 := HC7.out.cells.2.2.2.2.2.2.2
          have hFZ := HC7.out.froz 7
          rw [hIv] at y6 hown
          have hr := make_bools (w8).drew z (by omega)
          have HSI := Lib.hid hSI
          have HIV := Lib.hid hIv
          have hlen := hol
          clear hSI hIv
          have y6a := ca (o := .cells (bvs (List.replicate z false)).toArray 4) (w := w8) y6
          refine wp_region_rest (fun w' => w'.cell? ⟨C, 7, none⟩ = some (.slice ia kk.outs.length ic)) [0, 1, 2, 3, 4, 5, 6] [7, 9] 6 (by kernel_rfl) (by kernel_rfl) rfl y6 ?_
          intro Q' hQ'
          simp only [pickOps, List.flatMap_cons, List.flatMap_nil, List.drop_succ_cons, List.drop_zero, List.take_succ_cons, List.take_zero, List.cons_append, List.nil_append, List.append_nil]
          repeat (first
            | (refine wpReads_skip (by rfl) ?_; (try simp only [Act.put, List.setIfInBounds_toArray, List.set_cons_zero, List.set_cons_succ]))
            | (refine wpReads_cons ?_ (by rfl) (by rfl) ?_ ?_; rotate_left; (intro wz hz; (try dsimp only at hz); go_simp; try with_reducible rfl); (try simp only [Act.put, List.setIfInBounds_toArray, List.set_cons_zero, List.set_cons_succ]))
            | (refine wpReads_any ?_ (by rfl) ?_ ?_; rotate_left; (intro wz; go_simp; try with_reducible rfl); (try simp only [Act.put, List.setIfInBounds_toArray, List.set_cons_zero, List.set_cons_succ])))
          refine wpReads_nil ?_
          refine wpAnyT_one (i := 7) (by kernel_rfl) ?_
          simp only [pickOps, List.flatMap_cons, List.flatMap_nil, List.drop_succ_cons, List.drop_zero, List.take_succ_cons, List.take_zero, List.append_nil]
          go_wp2
          refine ⟨by first | exact fun _ _ => y6a | exact fun _ => y6a, ?_⟩
          refine wpAnyT_one (i := 8) (by kernel_rfl) ?_
          simp only [pickOps, List.flatMap_cons, List.flatMap_nil, List.drop_succ_cons, List.drop_zero, List.take_succ_cons, List.take_zero, List.append_nil]
          go_wp2
          refine ⟨by first | exact fun _ h => ca h | exact fun _ => ca y6a, ?_⟩
          refine wpAnyT_one (i := 9) (by kernel_rfl) ?_
          simp only [pickOps, List.flatMap_cons, List.flatMap_nil, List.drop_succ_cons, List.drop_zero, List.take_succ_cons, List.take_zero, List.append_nil]
          go_wp2_with (at_builtin; refine stop_here ?_)
          refine go_on ?_
          have hown2 : (((w8).alloc (.cells (bvs (List.replicate z false)).toArray 4)).alloc (.cells #[.slice (some ⟨(w8).heap.size, 0, none⟩) z z] 143)).ownsRow 0 143 1 (.slice ia kk.outs.length ic) kk.outs.length (rowsV kk.outs gO) := (hown.alloc _).alloc _
          refine wpList_app rfl _ _ 104 rfl 0 143 i1 _ 1 24 Try.underlying104 bi bz0 bz1 bz2 rfl (.slice ia kk.outs.length ic) kk.outs.length _ rfl hown2 (some ⟨(w8).heap.size + 1, 0, none⟩) 1 1 [.slice (some ⟨(w8).heap.size, 0, none⟩) z z] rfl rfl (fun h => by cases h) (by simpa using news_alloc ((w8).alloc (.cells (bvs (List.replicate z false)).toArray 4)) [.slice (some ⟨(w8).heap.size, 0, none⟩) z z] 143) (by simp [Value.oneCell']) (by unfold maxLen; omega) (grow_ok (by omega)) (Nat.zero_le _) ?_
          intro v7 w7 k1 k20 _ k4
          have k2 : (((w8).alloc (.cells (bvs (List.replicate z false)).toArray 4)).alloc (.cells #[.slice (some ⟨(w8).heap.size, 0, none⟩) z z] 143)).grownBy w7 (Value.slice ia kk.outs.length ic).ownBlock := ⟨k20.os, k20.tape, k20.output, k20.size, k20.block⟩
          have k4' : v7.ownBlock = (Value.slice ia kk.outs.length ic).ownBlock ∨ v7.ownBlock = some (((w8).alloc (.cells (bvs (List.replicate z false)).toArray 4)).alloc (.cells #[.slice (some ⟨(w8).heap.size, 0, none⟩) z z] 143)).heap.size := k4
          obtain ⟨s9, c9, rfl⟩ := owns_slice k1
          obtain ⟨⟨z6, zf⟩, TP, CP⟩ := HC7.out.pushO HSI.out z k1 (by rw [HIV.out]; exact k2) (by rw [HIV.out]; exact k4')
          rw [HIV.out] at z6
          have HK9 := Lib.hid (HK7.out.turn TP (by unfold ChkC; omega))
          have HT9 := Lib.hid (HT7.out.trans TP (fun _ h => h))
          have HR9 := Lib.hid (HR7.out.turn TP (by unfold ChkC; omega))
          have HC9 := Lib.hid CP
          clear TP CP k1 k2 k20 k4 k4' hown hown2 hr y6 y6a hFZ HK7 HT7 HR7 HC7 HSI
          refine ⟨by first | exact fun _ _ => z6 | exact fun _ => z6, ?_⟩
          refine wpAnyT_list (ks := [10, 11, 12]) (fun _ _ hx h => hx.cell h) (by kernel_rfl) ?_
          simp only [pickOps, List.flatMap_cons, List.flatMap_nil, List.drop_succ_cons, List.drop_zero, List.take_succ_cons, List.take_zero, List.cons_append, List.nil_append, List.append_nil]
          have z0 := HR9.out.cell 0 _ rfl
          have z1 := HR9.out.cell 1 _ rfl
          have z2 := HR9.out.cell 2 _ rfl
          have f0 := HR9.out.frozen 0
          have f1 := HR9.out.frozen 1
          have f2 := HR9.out.frozen 2
          go_wp2
          refine bodyPost_ret_by (results_tmp_row rfl _ _ _ _ _ _ _ rfl (spot_set HR9.out) Try.underlying94 rfl (by kernel_rfl)) rfl ?_
          exact ⟨⟨_, _, _, rfl⟩, _, vI, vO, HT9.out.late 7 (spot_mods (by have := HRE.out; omega) _ _ _), fun h => absurd h hx0⟩
      · have e : E = ne := by rw [← HEC.out, actorE, HNE.out, if_pos h0, if_pos h0]
        subst e
        have z0 := HR4.out.cell 0 _ rfl
        have z1 := HR4.out.cell 1 _ rfl
        have z2 := HR4.out.cell 2 _ rfl
        have f0 := HR4.out.frozen 0
        have f1 := HR4.out.frozen 1
        have f2 := HR4.out.frozen 2
        go_wp2
        refine bodyPost_ret_by (results_tmp_row rfl _ _ _ _ _ _ _ rfl (spot_set HR4.out) Try.underlying94 rfl (by kernel_rfl)) rfl ?_
        exact ⟨⟨_, _, _, rfl⟩, _, vI, vO, HT4.out.late 7 (spot_mods (by have := HRE.out; omega) _ _ _), fun h => absurd h h0⟩
    · obtain rfl : j = l.length := by omega
      have hfin := HE.out
      rw [List.drop_length, List.take_length] at hfin
      obtain rfl : E = 0 := hfin.symm
      have hC9 := HC.out
      rw [List.take_length] at hC9
      have HC9 := Lib.hid hC9
      clear hfin hC9
      have z0 := HR.out.cell 0 _ rfl
      have z1 := HR.out.cell 1 _ rfl
      have z2 := HR.out.cell 2 _ rfl
      have f0 := HR.out.frozen 0
      have f1 := HR.out.frozen 1
      have f2 := HR.out.frozen 2
      go_wp2
      refine bodyPost_ret_by (results_tmp_row rfl _ _ _ _ _ _ _ rfl (spot_set HR.out) Try.underlying94 rfl (by kernel_rfl)) rfl ?_
      exact ⟨⟨_, _, _, rfl⟩, _, vI, vO, HT.out.late 7 (spot_mods (by have := HRE.out; omega) _ _ _), fun _ => HC9.out.spot HR.out _ _ _⟩
end Go.Proofs.Ytaholpfikcdhbaa

/- The checker's open. -/
namespace Go.Proofs.Ytaholpfikcdhbaa
open Go.RowKit


/-- the rows up to i are full -/
def FullTo (ins outs : List (List Bool)) (i : Nat) : Prop := ∀ r, r < i → (ins[r]?.getD []).all id = true ∧ (outs[r]?.getD []).all id = true
theorem full_all {ins outs : List (List Bool)} (hl : outs.length = ins.length) (h : FullTo ins outs ins.length) : openE ins outs = 0 := by
  have h1 : (ins.all fun s => s.all id) = true := by
    rw [List.all_eq_true]
    intro x hx
    obtain ⟨r, hr, rfl⟩ := List.mem_iff_getElem.1 hx
    have := (h r hr).1
    rwa [List.getElem?_eq_getElem hr, Option.getD_some] at this
  have h2 : (outs.all fun s => s.all id) = true := by
    rw [List.all_eq_true]
    intro x hx
    obtain ⟨r, hr, rfl⟩ := List.mem_iff_getElem.1 hx
    have := (h r (by omega)).2
    rwa [List.getElem?_eq_getElem hr, Option.getD_some] at this
  unfold openE
  rw [h1, h2]; rfl
theorem open_ins {ins outs : List (List Bool)} {i m : Nat} (hi : i < ins.length) (hm : m < (ins[i]?.getD []).length) (h : (ins[i]?.getD [])[m]?.getD false = false) : openE ins outs = 87 := by
  have h1 : (ins.all fun s => s.all id) = false := by
    rw [List.all_eq_false]
    rw [List.getElem?_eq_getElem hi, Option.getD_some] at hm h
    refine ⟨ins[i], List.getElem_mem hi, ?_⟩
    rw [List.getElem?_eq_getElem hm, Option.getD_some] at h
    simp only [Bool.not_eq_true, List.all_eq_false]
    exact ⟨_, List.getElem_mem hm, by simp [h]⟩
  unfold openE
  rw [h1]; rfl
theorem open_outs {ins outs : List (List Bool)} {i m : Nat} (hi : i < outs.length) (hm : m < (outs[i]?.getD []).length) (h : (outs[i]?.getD [])[m]?.getD false = false) : openE ins outs = 87 := by
  have h1 : (outs.all fun s => s.all id) = false := by
    rw [List.all_eq_false]
    rw [List.getElem?_eq_getElem hi, Option.getD_some] at hm h
    refine ⟨outs[i], List.getElem_mem hi, ?_⟩
    rw [List.getElem?_eq_getElem hm, Option.getD_some] at h
    simp only [Bool.not_eq_true, List.all_eq_false]
    exact ⟨_, List.getElem_mem hm, by simp [h]⟩
  unfold openE
  rw [h1, Bool.and_false]; rfl
theorem all_to {l : List Bool} (h : ∀ m, m < l.length → l[m]?.getD false = true) : l.all id = true := by
  rw [List.all_eq_true]
  intro x hx
  obtain ⟨r, hr, rfl⟩ := List.mem_iff_getElem.1 hx
  have := h r hr
  rwa [List.getElem?_eq_getElem hr, Option.getD_some] at this
theorem bvs_get' {l : List Bool} {k : Nat} (h : k < l.length) : (bvs l).toArray[k]? = some (.bool (l[k]?.getD false)) := by simp [bvs, h]

set_option maxRecDepth 100000 in
set_option maxHeartbeats 2000000 in
theorem gopen_any (w : World) (o : Col) (C B : Nat) (X : ChkV) (k : Chk) (ao : Option Addr) (n cap : Nat) (hva : X.va = .slice ao n cap) (hi : k.ins.length = n) (ho : k.outs.length = n) (hn : n ≤ 1000000) (hrl : ∀ r : Nat, (k.ins[r]?.getD []).length ≤ 1000000 ∧ (k.outs[r]?.getD []).length ≤ 1000000) (h : ChkAt w o C B X k) :
    Calls Try.prog 38 #[.pointer (some ⟨C, 0, none⟩)] w (ChkRet w o C B X (openE k.ins k.outs) k) := by
  obtain ⟨E, hE⟩ : ∃ E, openE k.ins k.outs = E := ⟨_, rfl⟩
  rw [hE]
  have HE := Lib.hid hE
  have HI := Lib.hid hi
  have HO := Lib.hid ho
  have HN := Lib.hid hn
  have HRL := Lib.hid hrl
  have hbR := below_alloc w (.cells #[.int .u8 0, .int .i64 0, .int .i64 0] 94)
  have HT0 := Lib.hid ((Turn.of_below o 7 hbR).mono (D := ChkC) (fun _ h => h.elim))
  have hC0 := h.below 7 hbR
  have q1 := hC0.cells.2.1
  rw [hva] at q1
  have HC0 := Lib.hid hC0
  have HR0 := Lib.hid (spot_new w o 7)
  clear hE hva hi ho hn hrl h hbR hC0
  go_enter Try.func38, Try.ntmps38
  go_wp2_with fail
  clear q1
  obtain ⟨R, hR⟩ : ∃ R, w.heap.size = R := ⟨_, rfl⟩
  have HRE := Lib.hid hR
  rw [hR] at HR0 HT0 HC0 ⊢
  clear hR
  generalize w.alloc (.cells #[.int .u8 0, .int .i64 0, .int .i64 0] 94) = W at *
  generalize ext o R 7 = q at *
  go_loopw [15] (fun i wr => ∃ j : Nat, j ≤ n ∧ i = .int .i64 j ∧ Below W.heap.size W wr ∧ FullTo k.ins k.outs j) (fun i _ => n - (intOf i).toNat)
  case atStart => exact ⟨0, Nat.zero_le _, rfl, Below.refl _ _, fun r hr => absurd hr (by omega)⟩
  case round =>
    obtain ⟨j, hj, rfl, hb, hfull⟩ := hrel
    have HB := Lib.hid hb
    have HF := Lib.hid hfull
    clear hb hfull
    by_cases hlt : j < n
    · have hlti : (j : Int) < n := by omega
      have hC := HC0.out.below 9 HB.out
      obtain ⟨gI, hSI⟩ := hC.ins
      obtain ⟨gO, hSO⟩ := hC.outs
      obtain ⟨ia, ic, hIv⟩ := hSI.own.slice
      obtain ⟨oa, oc, hOv⟩ := hSO.own.slice
      have y6 := hC.cells.2.2.2.2.2.2.1
      have y7 := hC.cells.2.2.2.2.2.2.2
      rw [hIv] at y6 hSI
      rw [hOv] at y7 hSO
      obtain ⟨_, hci, g1, rfl, r1⟩ := hSI.row (a := j) (by have := HI.out; omega)
      obtain ⟨_, hco, g2, rfl, r2⟩ := hSO.row (a := j) (by have := HO.out; omega)
      have b1 := hSI.rows j (by have := HI.out; omega)
      have b2 := hSO.rows j (by have := HO.out; omega)
      obtain ⟨ri, hri⟩ : ∃ x, k.ins[j]?.getD [] = x := ⟨_, rfl⟩
      obtain ⟨ro, hro⟩ : ∃ x, k.outs[j]?.getD [] = x := ⟨_, rfl⟩
      have hbi : ri.length ≤ 1000000 := hri ▸ (HRL.out j).1
      have hbo : ro.length ≤ 1000000 := hro ▸ (HRL.out j).2
      rw [hri] at r1 b1
      rw [hro] at r2 b2
      generalize gI[j]?.getD 0 = G1 at *
      generalize gO[j]?.getD 0 = G2 at *
      have HRI := Lib.hid hri
      have HRO := Lib.hid hro
      have HB1 := Lib.hid b1
      have HB2 := Lib.hid b2
      have hIl := HI.out
      have hOl := HO.out
      rw [hIl] at y6 hci
      rw [hOl] at y7 hco
      have hcii : (n : Int) ≤ ic := by omega
      have hcoi : (n : Int) ≤ oc := by omega
      clear hC hSI hSO hIv hOv hri hro b1 b2 hIl hOl
      go_wp2_with fail
      refine wp_region_lex (fun w' => w'.cell? ⟨C, 6, none⟩ = some (.slice (some ⟨g1, 0, none⟩) n ic) ∧ w'.cell? ⟨C, 7, none⟩ = some (.slice (some ⟨g2, 0, none⟩) n oc) ∧ w'.cell? ⟨g1, j, none⟩ = some (.slice (some ⟨G1, 0, none⟩) ri.length ri.length) ∧ w'.cell? ⟨g2, j, none⟩ = some (.slice (some ⟨G2, 0, none⟩) ro.length ro.length)) [0, 1, 2, 3, 4, 5, 6, 7, 8, 9, 10, 11, 12, 13, 16] [14, 15] (by kernel_rfl) (by kernel_rfl) rfl (fun _ _ hx h => ⟨hx.cell h.1, hx.cell h.2.1, hx.cell h.2.2.1, hx.cell h.2.2.2⟩) ⟨y6, y7, r1, r2⟩ ?_
      intro Q' hQ'
      simp only [pickOps, List.flatMap_cons, List.flatMap_nil, List.drop_succ_cons, List.drop_zero, List.take_succ_cons, List.take_zero, List.cons_append, List.nil_append, List.append_nil]
      repeat (first
        | (refine wpReads_skip (by rfl) ?_; (try simp only [Act.put, List.setIfInBounds_toArray, List.set_cons_zero, List.set_cons_succ]))
        | (refine wpReads_cons ?_ (by rfl) (by rfl) ?_ ?_; rotate_left; (intro wz hz; (try dsimp only at hz); go_simp; try with_reducible rfl); (try simp only [Act.put, List.setIfInBounds_toArray, List.set_cons_zero, List.set_cons_succ]))
        | (refine wpReads_any ?_ (by rfl) ?_ ?_; rotate_left; (intro wz; go_simp; try with_reducible rfl); (try simp only [Act.put, List.setIfInBounds_toArray, List.set_cons_zero, List.set_cons_succ])))
      refine wpReads_nil ?_
      have hbT := below_alloc wr (.cells #[.slice (some ⟨G1, 0, none⟩) ri.length ri.length, .slice (some ⟨G2, 0, none⟩) ro.length ro.length] 143)
      have hT := heap_alloc_new wr (.cells #[.slice (some ⟨G1, 0, none⟩) ri.length ri.length, .slice (some ⟨G2, 0, none⟩) ro.length ro.length] 143)
      have t0 := cells_row _ _ hT 0 _ rfl
      have t1 := cells_row _ _ hT 1 _ rfl
      have HBT := Lib.hid (HB.out.trans (hbT.mono HB.out.size))
      have HP1 := Lib.hid (HB1.out.turn (Turn.of_below _ 9 hbT) (fun h => h))
      have HP2 := Lib.hid (HB2.out.turn (Turn.of_below _ 9 hbT) (fun h => h))
      clear hbT hT y6 y7 r1 r2 HB1 HB2 HB
      go_wp2_with fail
      obtain ⟨W2, hW2⟩ : ∃ W2, (wr.alloc (.cells #[.slice (some ⟨G1, 0, none⟩) ri.length ri.length, .slice (some ⟨G2, 0, none⟩) ro.length ro.length] 143)).drew = W2 := ⟨_, rfl⟩
      have t0' : W2.cell? ⟨wr.heap.size, 0, none⟩ = some (.slice (some ⟨G1, 0, none⟩) ri.length ri.length) := by rw [← hW2]; exact t0
      have t1' : W2.cell? ⟨wr.heap.size, 1, none⟩ = some (.slice (some ⟨G2, 0, none⟩) ro.length ro.length) := by rw [← hW2]; exact t1
      have HB2' : Hid (Below W.heap.size W W2) := Lib.hid (by rw [← hW2]; exact below_dr (n := 1) HBT.out)
      have HQ1 : Hid (∀ m, m < ri.length → W2.cell? ⟨G1, m, none⟩ = some (.bool (ri[m]?.getD false))) := Lib.hid (fun m hm => by rw [← hW2]; exact HP1.out.cell m _ (bvs_get' hm))
      have HQ2 : Hid (∀ m, m < ro.length → W2.cell? ⟨G2, m, none⟩ = some (.bool (ro[m]?.getD false))) := Lib.hid (fun m hm => by rw [← hW2]; exact HP2.out.cell m _ (bvs_get' hm))
      rw [hW2]
      clear t0 t1 HBT HP1 HP2 hW2
      generalize wr.heap.size = T at *
      go_loopw [34] (fun jv wq => ∃ m : Nat, m ≤ 2 ∧ jv = .int .i64 m ∧ wq = W2 ∧ (1 ≤ m → ri.all id = true) ∧ (2 ≤ m → ro.all id = true)) (fun jv _ => 2 - (intOf jv).toNat)
      case atStart => exact ⟨0, by omega, rfl, rfl, fun h => absurd h (by omega), fun h => absurd h (by omega)⟩
      case round =>
        obtain ⟨m, hm, rfl, hw, hm1, hm2⟩ := hrel
        subst hw
        have HM1 := Lib.hid hm1
        have HM2 := Lib.hid hm2
        clear hm1 hm2
        by_cases h0 : m = 0
        · subst h0
          go_wp2_with fail
          go_loopw [40] (fun pv wq => ∃ p : Nat, p ≤ ri.length ∧ pv = .int .i64 p ∧ wq = wr ∧ ∀ x, x < p → ri[x]?.getD false = true) (fun pv _ => ri.length - (intOf pv).toNat)
          case atStart => exact ⟨0, Nat.zero_le _, rfl, rfl, fun x hx => absurd hx (by omega)⟩
          case round =>
            obtain ⟨p, hp, rfl, hw2, hall⟩ := hrel
            subst hw2
            have HAll := Lib.hid hall
            clear hall
            by_cases hpl : p < ri.length
            · have hpi : (p : Int) < ri.length := by omega
              have hq := HQ1.out p hpl
              obtain ⟨bb, hpf⟩ : ∃ bb, ri[p]?.getD false = bb := ⟨_, rfl⟩
              rw [hpf] at hq
              cases bb with
              | false =>
                have e : E = 87 := by rw [← HE.out]; exact open_ins (i := j) (by have := HI.out; omega) (by rw [HRI.out]; exact hpl) (by rw [HRI.out]; exact hpf)
                subst e
                have hBB := HB2'.out
                have HR := Lib.hid (HR0.out.turn (Turn.of_below q 9 hBB) (fun h => h))
                have HT := Lib.hid (HT0.out.trans ((Turn.of_below q 9 hBB).mono (D := ChkC) (fun _ h => h.elim)) (fun _ h => h))
                clear hBB
                have z0 := HR.out.cell 0 _ rfl
                have z1 := HR.out.cell 1 _ rfl
                have z2 := HR.out.cell 2 _ rfl
                have f0 := HR.out.frozen 0
                have f1 := HR.out.frozen 1
                have f2 := HR.out.frozen 2
                go_wp2
                refine bodyPost_ret_by (results_tmp_row rfl _ _ _ _ _ _ _ rfl (spot_set HR.out) Try.underlying94 rfl (by kernel_rfl)) rfl ?_
                exact ⟨⟨_, _, _, rfl⟩, _, HT.out.late 7 (spot_mods (by have := HRE.out; omega) _ _ _), fun h => by cases h⟩
              | true =>
                have HAll2 : Hid (∀ x, x < p + 1 → ri[x]?.getD false = true) := Lib.hid (fun x hx => by
                  by_cases e : x = p
                  · rw [e]; exact hpf
                  · exact HAll.out x (by omega))
                clear hpf
                go_wp2
                go_roundw
                case rel => exact ⟨p + 1, hpl, by first | rfl | go_num, by first | rfl | trivial, HAll2.out⟩
                case measure => first | (simp [intOf]; omega) | (rw [IntWalk.wrap64_in _ (by omega)]; simp [intOf]; omega)
            · obtain rfl : p = ri.length := by omega
              go_wp2
              go_roundw
              case rel => exact ⟨1, by omega, by first | rfl | go_num, by first | rfl | trivial, fun _ => all_to (HAll.out), fun h => absurd h (by omega)⟩
              case measure => simp [intOf]
        · by_cases h1 : m = 1
          · subst h1
            go_wp2_with fail
            go_loopw [40] (fun pv wq => ∃ p : Nat, p ≤ ro.length ∧ pv = .int .i64 p ∧ wq = wr ∧ ∀ x, x < p → ro[x]?.getD false = true) (fun pv _ => ro.length - (intOf pv).toNat)
            case atStart => exact ⟨0, Nat.zero_le _, rfl, rfl, fun x hx => absurd hx (by omega)⟩
            case round =>
              obtain ⟨p, hp, rfl, hw2, hall⟩ := hrel
              subst hw2
              have HAll := Lib.hid hall
              clear hall
              by_cases hpl : p < ro.length
              · have hpi : (p : Int) < ro.length := by omega
                have hq := HQ2.out p hpl
                obtain ⟨bb, hpf⟩ : ∃ bb, ro[p]?.getD false = bb := ⟨_, rfl⟩
                rw [hpf] at hq
                cases bb with
                | false =>
                  have e : E = 87 := by rw [← HE.out]; exact open_outs (i := j) (by have := HO.out; omega) (by rw [HRO.out]; exact hpl) (by rw [HRO.out]; exact hpf)
                  subst e
                  have hBB := HB2'.out
                  have HR := Lib.hid (HR0.out.turn (Turn.of_below q 9 hBB) (fun h => h))
                  have HT := Lib.hid (HT0.out.trans ((Turn.of_below q 9 hBB).mono (D := ChkC) (fun _ h => h.elim)) (fun _ h => h))
                  clear hBB
                  have z0 := HR.out.cell 0 _ rfl
                  have z1 := HR.out.cell 1 _ rfl
                  have z2 := HR.out.cell 2 _ rfl
                  have f0 := HR.out.frozen 0
                  have f1 := HR.out.frozen 1
                  have f2 := HR.out.frozen 2
                  go_wp2
                  refine bodyPost_ret_by (results_tmp_row rfl _ _ _ _ _ _ _ rfl (spot_set HR.out) Try.underlying94 rfl (by kernel_rfl)) rfl ?_
                  exact ⟨⟨_, _, _, rfl⟩, _, HT.out.late 7 (spot_mods (by have := HRE.out; omega) _ _ _), fun h => by cases h⟩
                | true =>
                  have HAll2 : Hid (∀ x, x < p + 1 → ro[x]?.getD false = true) := Lib.hid (fun x hx => by
                    by_cases e : x = p
                    · rw [e]; exact hpf
                    · exact HAll.out x (by omega))
                  clear hpf
                  go_wp2
                  go_roundw
                  case rel => exact ⟨p + 1, hpl, by first | rfl | go_num, by first | rfl | trivial, HAll2.out⟩
                  case measure => first | (simp [intOf]; omega) | (rw [IntWalk.wrap64_in _ (by omega)]; simp [intOf]; omega)
              · obtain rfl : p = ro.length := by omega
                go_wp2
                go_roundw
                case rel => exact ⟨2, by omega, by first | rfl | go_num, by first | rfl | trivial, fun _ => HM1.out (Nat.le_refl _), fun _ => all_to (HAll.out)⟩
                case measure => simp [intOf]
          · obtain rfl : m = 2 := by omega
            have HFn : Hid (FullTo k.ins k.outs (j + 1)) := Lib.hid (fun r hr => by
              by_cases e : r = j
              · subst e; rw [HRI.out, HRO.out]; exact ⟨HM1.out (by omega), HM2.out (by omega)⟩
              · exact HF.out r (by omega))
            have hnn := HN.out
            go_wp2
            go_roundw
            case rel => exact ⟨j + 1, hlt, by go_num, HB2'.out, HFn.out⟩
            case measure => simp [intOf]; omega
    · obtain rfl : j = n := by omega
      have e : E = 0 := by rw [← HE.out]; exact full_all (HO.out.trans HI.out.symm) (HI.out.symm ▸ HF.out)
      subst e
      have HR := Lib.hid (HR0.out.turn (Turn.of_below q 9 HB.out) (fun h => h))
      have HT := Lib.hid (HT0.out.trans ((Turn.of_below q 9 HB.out).mono (D := ChkC) (fun _ h => h.elim)) (fun _ h => h))
      have HC9 := Lib.hid (HC0.out.below 9 HB.out)
      have z0 := HR.out.cell 0 _ rfl
      have z1 := HR.out.cell 1 _ rfl
      have z2 := HR.out.cell 2 _ rfl
      have f0 := HR.out.frozen 0
      have f1 := HR.out.frozen 1
      have f2 := HR.out.frozen 2
      go_wp2
      refine bodyPost_ret_by (results_tmp_row rfl _ _ _ _ _ _ _ rfl (spot_set HR.out) Try.underlying94 rfl (by kernel_rfl)) rfl ?_
      exact ⟨⟨_, _, _, rfl⟩, _, HT.out.late 7 (spot_mods (by have := HRE.out; omega) _ _ _), fun _ => HC9.out.spot HR.out _ _ _⟩
end Go.Proofs.Ytaholpfikcdhbaa

/- The graph's find: what it is before its calls. -/
namespace Go.Proofs.Ytaholpfikcdhbaa
open Go.RowKit

/-- the colours of find's own blocks -/
def findO (N : Nat) : Col := fun k => if k < N then 0 else if k = N + 2 then 2 else if k = N + 3 then 1 else 7
/-- the four blocks that find makes first -/
def findW (w : World) (s : ByteArray) (va ve vi vo : Value) : World :=
  (((w.alloc (.cells #[.string s, va, ve, vi, vo] 61)).alloc (.cells #[.int .u8 0, .int .i64 0, .int .i64 0] 94)).alloc (.map #[] 0)).alloc (.cells #[.string s, va, ve, vi, vo, .map (some (w.heap.size + 2)), .slice none 0 0, .slice none 0 0] 106)

theorem find_start (w : World) (s : ByteArray) (va ve vi vo : Value) :
    Kept w.heap.size (findO w.heap.size) w (findW w s va ve vi vo) ∧ ChkAt (findW w s va ve vi vo) (findO w.heap.size) (w.heap.size + 3) (w.heap.size + 2) ⟨s, va, ve, vi, vo, .slice none 0 0, .slice none 0 0⟩ chk0 ∧
    Blk (findW w s va ve vi vo) (findO w.heap.size) 7 w.heap.size 61 #[.string s, va, ve, vi, vo] ∧ Blk (findW w s va ve vi vo) (findO w.heap.size) 7 (w.heap.size + 1) 94 #[.int .u8 0, .int .i64 0, .int .i64 0] := by
  have h0 := heap_alloc_new w (.cells #[.string s, va, ve, vi, vo] 61)
  have h1 := heap_alloc_new (w.alloc (.cells #[.string s, va, ve, vi, vo] 61)) (.cells #[.int .u8 0, .int .i64 0, .int .i64 0] 94)
  have hm := World.ownsMap_made (H := Unit) ((w.alloc (.cells #[.string s, va, ve, vi, vo] 61)).alloc (.cells #[.int .u8 0, .int .i64 0, .int .i64 0] 94)) Try.prog 9 (plainElem Try.prog 3)
  have h3 := heap_alloc_new (((w.alloc (.cells #[.string s, va, ve, vi, vo] 61)).alloc (.cells #[.int .u8 0, .int .i64 0, .int .i64 0] 94)).alloc (.map #[] 0)) (.cells #[.string s, va, ve, vi, vo, .map (some (w.heap.size + 2)), .slice none 0 0, .slice none 0 0] 106)
  simp only [World.size_alloc] at h1 hm h3
  have hb : Below w.heap.size w (findW w s va ve vi vo) := (((below_alloc w _).alloc (by simp) _).alloc (by simp; omega) _).alloc (by simp; omega) _
  refine ⟨⟨hb, fun k hk => by simp [findO, hk], hb.size⟩, ⟨_, 0, [], [], ⟨h3, by simp [findO]⟩, hm.alloc _, by simp [findO], seen_start, Nat.zero_le _, Side.nil _ _ _ _, Side.nil _ _ _ _⟩, ⟨block_alloc (block_alloc (block_alloc h0 _) _) _, by simp [findO]⟩, ⟨block_alloc (block_alloc h1 _) _, by simp [findO]⟩⟩
end Go.Proofs.Ytaholpfikcdhbaa

/- The rows of a checker's sides: how many, how long. No function in sight. -/
namespace Go.Proofs.Ytaholpfikcdhbaa

def RowsLe (side : List (List Bool)) (m : Nat) : Prop := ∀ r : Nat, (side[r]?.getD []).length ≤ m

theorem takeS_len (side : List (List Bool)) (a p : Int) : (takeS side a p).length = side.length := by simp [takeS]
theorem takeS_rows {side : List (List Bool)} {m : Nat} (h : RowsLe side m) (a p : Int) : RowsLe (takeS side a p) m := fun r => by
  unfold takeS
  by_cases e : a.toNat = r
  · by_cases hr : r < side.length
    · rw [e, List.getElem?_set_self hr, Option.getD_some, List.length_set]
      unfold side1
      exact h _
    · rw [List.getElem?_eq_none (by simpa using Nat.le_of_not_lt hr)]
      simp
  · rw [List.getElem?_set_ne e]; exact h r
theorem edgesC_len (l : List GEdge) : ∀ c : Chk, (edgesC c l).ins.length = c.ins.length ∧ (edgesC c l).outs.length = c.outs.length ∧ (edgesC c l).seen = c.seen := by
  induction l with
  | nil => intro c; exact ⟨rfl, rfl, rfl⟩
  | cons e r ih => intro c; rw [show edgesC c (e :: r) = edgesC (edgeC c e) r from rfl, (ih _).1, (ih _).2.1, (ih _).2.2]; simp [edgeC, takeS_len]
theorem edgesC_rows (l : List GEdge) {m : Nat} : ∀ c : Chk, RowsLe c.ins m → RowsLe c.outs m → RowsLe (edgesC c l).ins m ∧ RowsLe (edgesC c l).outs m := by
  induction l with
  | nil => intro c h1 h2; exact ⟨h1, h2⟩
  | cons e r ih => intro c h1 h2; exact ih _ (takeS_rows h1 _ _) (takeS_rows h2 _ _)
theorem portsS_len (l : List GPort) : ∀ side : List (List Bool), (portsS side l).length = side.length := by
  induction l with
  | nil => intro s; rfl
  | cons p r ih => intro s; rw [show portsS s (p :: r) = portsS (takeS s p.actor p.port) r from rfl, ih, takeS_len]
theorem portsS_rows (l : List GPort) {m : Nat} : ∀ side : List (List Bool), RowsLe side m → RowsLe (portsS side l) m := by
  induction l with
  | nil => intro s h; exact h
  | cons p r ih => intro s h; exact ih _ (takeS_rows h _ _)
theorem rowsLe_snoc {side : List (List Bool)} {m n : Nat} (h : RowsLe side m) (hn : n ≤ m) : RowsLe (side ++ [List.replicate n false]) m := fun r => by
  by_cases hr : r < side.length
  · rw [List.getElem?_append_left hr]; exact h r
  · by_cases e : r = side.length
    · subst e; simp; exact hn
    · rw [List.getElem?_eq_none (by simp; omega)]; simp
theorem actorsE_rows (l : List GActor) : ∀ c : Chk, actorsE c l = 0 → RowsLe c.ins 16 → RowsLe c.outs 16 → RowsLe (actorsC c l).ins 16 ∧ RowsLe (actorsC c l).outs 16 := by
  induction l with
  | nil => intro c _ h1 h2; exact ⟨h1, h2⟩
  | cons a r ih =>
    intro c h h1 h2
    unfold actorsE at h
    by_cases h0 : actorE c.seen a = 0
    · rw [if_neg (by simpa using h0)] at h
      have hg : goodP a.tag a.params := by
        refine Decidable.byContradiction fun hn => ?_
        unfold actorE at h0
        split at h0
        · rename_i hx; exact hx h0
        · have h0 : errP a.tag = 0 := by first | exact h0 | (rw [if_neg hn] at h0; exact h0)
          unfold errP at h0
          split at h0 <;> cases h0
      have hl := shape_len hg
      exact ih _ h (rowsLe_snoc h1 hl.1) (rowsLe_snoc h2 hl.2)
    · rw [if_pos h0] at h
      exact absurd h h0
theorem rowsLe_nil (m : Nat) : RowsLe [] m := fun r => by simp
end Go.Proofs.Ytaholpfikcdhbaa

/- A region that draws its order: reads, one call, looks at its answer; beside it a new block, at whatever moment. No program in sight. -/
namespace Go.Proofs.Ytaholpfikcdhbaa
section
variable {P : Program} {md : Region.Mode} {ops : Array Oper} {Q : Exit → Go.Act → World → Prop} {S : World → Prop}

def mid2OK (md : Region.Mode) (ops : Array Oper) (r1 : List Nat) (k m : Nat) (r2 M : List Nat) : Bool :=
  Region.noSelect ops && ((r1 ++ r2).all fun i => anyAt ops i || (List.range ops.size).all fun j => madeB ops j || (r1 ++ r2).contains j || M.contains j || behindB md ops ops.size j i) &&
  stageHead md ops (fun _ => true) r1 (Array.replicate ops.size false) && decide (Region.ready md ops (setAll (Array.replicate ops.size false) r1) = [k, m]) &&
  stageHead md ops (fun _ => true) r2 ((setAll (Array.replicate ops.size false) r1).setIfInBounds k true) &&
  decide (Region.ready md ops ((setAll (Array.replicate ops.size false) r1).setIfInBounds m true) = [k]) &&
  stageHead md ops (fun _ => true) r2 (((setAll (Array.replicate ops.size false) r1).setIfInBounds m true).setIfInBounds k true)

theorem wp_region_mid2 {id : Nat} {l : List Oper} {a : Go.Act} {w : World} (S : World → Prop) (r1 : List Nat) (k m : Nat) (r2 M : List Nat) (n : Nat) (hm : P.follows .mixedOrders = true)
    (hB : mid2OK .any l.toArray r1 k m r2 M = true) (hlen : r1.length + ((r2.length + n) + 1 + 1) = l.length) (hS : S w.drew)
    (h : ∀ Q' : Exit → Go.Act → World → Prop, (∀ a w, Q .normal a w → Q' .normal a w) → wpReads P l.toArray S (fun a' =>
      wpList P l.toArray (EndK Q' fun a1 w1 => S w1 ∧ wpReads P l.toArray S (fun a2 => wpAnyT P .any l.toArray Q' S (bsOf l.toArray (r1 ++ r2) M) (n + 1) (setAll ((setAll (Array.replicate l.length false) r1).setIfInBounds k true) r2) a2 w1) (pickOps l.toArray r2) a1) (pickOps l.toArray [k]) a' w.drew ∧
      wpList P l.toArray (EndK Q' fun a0 w0 => S w0 ∧ wpList P l.toArray (EndK Q' fun a1 w1 => S w1 ∧ wpReads P l.toArray S (fun a2 => wpAnyT P .any l.toArray Q' S (bsOf l.toArray (r1 ++ r2) M) n (setAll (((setAll (Array.replicate l.length false) r1).setIfInBounds m true).setIfInBounds k true) r2) a2 w1) (pickOps l.toArray r2) a1) (pickOps l.toArray [k]) a0 w0) (pickOps l.toArray [m]) a' w.drew) (pickOps l.toArray r1) a) :
    (Code.region id l.toArray true).wp P Q a w := by
  refine wp_region_noPanic ?_
  refine wp_region_any hm ?_
  simp only [mid2OK, Bool.and_eq_true, List.all_eq_true, List.mem_range, Bool.or_eq_true, decide_eq_true_eq] at hB
  obtain ⟨⟨⟨⟨⟨⟨hsel, hbe⟩, h1⟩, hk⟩, h2⟩, hkm⟩, h3⟩ := hB
  refine wpAny_of_T (S := S) (B := bsOf l.toArray (r1 ++ r2) M) _ _ _ _ ?_
  have hbe' : ∀ i ∈ (r1 ++ r2), anyAt l.toArray i = false → ∀ j, j < l.toArray.size → madeB l.toArray j = true ∨ (r1 ++ r2).contains j = true ∨ M.contains j = true ∨ behindB .any l.toArray l.toArray.size j i = true := fun i hi hany j hj => by
    rcases hbe i hi with h0 | h0
    · rw [hany] at h0; cases h0
    rcases h0 j hj with ((h1 | h1) | h1) | h1
    · exact .inl h1
    · exact .inr (.inl h1)
    · exact .inr (.inr (.inl h1))
    · exact .inr (.inr (.inr h1))
  have hcl0 : closedL .any l.toArray (Array.replicate l.toArray.size false) := fun j oj _ hl => by rw [getD_replicate_false] at hl; cases hl
  have hcl1 := closedL_setAll r1 _ hcl0 h1
  have hkr : k ∈ Region.ready .any l.toArray (setAll (Array.replicate l.toArray.size false) r1) := by rw [hk]; simp
  have hmr : m ∈ Region.ready .any l.toArray (setAll (Array.replicate l.toArray.size false) r1) := by rw [hk]; simp
  have hcl2 := closedL_set hcl1 hkr
  have hcl3 := closedL_set hcl1 hmr
  have hkr3 : k ∈ Region.ready .any l.toArray ((setAll (Array.replicate l.toArray.size false) r1).setIfInBounds m true) := by rw [hkm]; simp
  have hcl4 := closedL_set hcl3 hkr3
  have hh := h (NoPanic Q) (fun _ _ h => NoPanic.normal h)
  have key := wpAnyT_reads (P := P) (md := .any) (Q := NoPanic Q) (S := S) (reads := r1 ++ r2) (M := M) (n := (r2.length + n) + 1 + 1) hsel (fun c a a' w h => h) hbe' r1 (Array.replicate l.toArray.size false) a { w with drawn := w.drawn + 1 } (fun i hi => by simp [hi]) hcl0 h1 hS
  rw [hlen] at key
  have hk' : Region.ready .any l.toArray (setAll (Array.replicate l.toArray.size false) r1) = [k, m] := hk
  have go : wpReads P l.toArray S (fun a' => wpAnyT P .any l.toArray (NoPanic Q) S (bsOf l.toArray (r1 ++ r2) M) (r2.length + n + 1 + 1) (setAll (Array.replicate l.toArray.size false) r1) a' { w with drawn := w.drawn + 1 }) (pickOps l.toArray r1) a := by
    refine wpReads_mono (fun a' ha' => ?_) _ _ hh
    refine ⟨fun h0 => (by rw [h0] at hk'; cases hk'), fun j hj => ?_⟩
    rw [hk'] at hj
    rcases List.mem_cons.1 hj with rfl | hj
    · refine wpOp_of_listK (ready_lt hkr) (fun a1 w1 h1' => ?_) ha'.1
      obtain ⟨hS1, hr2⟩ := h1'
      refine ⟨fun _ _ => hS1, ?_⟩
      have e : r2.length + n + 1 = r2.length + (n + 1) := by omega
      rw [e]
      exact wpAnyT_reads (P := P) (md := .any) (Q := NoPanic Q) (S := S) (reads := r1 ++ r2) (M := M) (n := n + 1) hsel (fun c a a' w h => h) hbe' r2 _ a1 w1 (fun i hi => by simp [hi]) hcl2 h2 hS1 (by simpa using hr2)
    · obtain rfl : j = m := by simpa using hj
      refine wpOp_of_listK (ready_lt hmr) (fun a0 w0 h0' => ?_) ha'.2
      obtain ⟨hS0, hkk⟩ := h0'
      refine ⟨fun _ _ => hS0, ?_⟩
      have hkm' : Region.ready .any l.toArray ((setAll (Array.replicate l.toArray.size false) r1).setIfInBounds j true) = [k] := hkm
      refine ⟨fun h0 => (by rw [h0] at hkm'; cases hkm'), fun i hi => ?_⟩
      rw [hkm'] at hi
      obtain rfl : i = k := by simpa using hi
      refine wpOp_of_listK (ready_lt hkr3) (fun a1 w1 h1' => ?_) hkk
      obtain ⟨hS1, hr2⟩ := h1'
      refine ⟨fun _ _ => hS1, ?_⟩
      exact wpAnyT_reads (P := P) (md := .any) (Q := NoPanic Q) (S := S) (reads := r1 ++ r2) (M := M) (n := n) hsel (fun c a a' w h => h) hbe' r2 _ a1 w1 (fun i hi => by simp [hi]) hcl4 h3 hS1 (by simpa using hr2)
  have := key go
  simpa using this
end
end Go.Proofs.Ytaholpfikcdhbaa
