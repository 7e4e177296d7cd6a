/- The reference's Of, where the parameters may be. -/
import Derived.Test.YtknmiiajeafjpaaRef2
namespace Go.Proofs.Ytknmiiajeafjpaa
open Go.RowKit


theorem rof_1 {o : Col} {c : Nat} (w : World) (ao : Option Addr) (n cap : Nat) (l : List Int) (hg : goodP 1 l) (h : Ints w o c (.slice ao n cap) l) : Calls Try.prog 38 #[.int .u8 1, .slice ao n cap] w (OfOk w 1 l) := by
  have hgd := rgood_any w 1 (by simp [TagOk]) _ _ _ _ h
  rw [decide_eq_true hg] at hgd
  clear hg h
  go_enter Try.func38, Try.ntmps38
  go_wp2_with fail
  refine hgd.mono ?_
  rintro e w0 ⟨rfl, m, rfl⟩
  clear hgd
  go_wp2_with fail
  refine (rports_any _ 1 1 (by omega)).mono ?_
  rintro e w1 ⟨v1, rfl, ho1, hb1⟩
  have HO1 := Lib.hid ho1
  clear ho1
  go_wp2_with fail
  refine (rports_any _ 1 1 (by omega)).mono ?_
  rintro e w2 ⟨v2, rfl, ho2, hb2⟩
  have HO2 := Lib.hid ho2
  clear ho2
  go_wp2
  go_ret3
  obtain ⟨q1, q2, q3⟩ := of_fin (below_n (Below.refl _ w) m) HO1.out hb1 (Below.refl _ _) HO2.out hb2
  exact ⟨v1, v2, rfl, q1, q2, q3⟩
theorem rof_8 {o : Col} {c : Nat} (w : World) (ao : Option Addr) (n cap : Nat) (l : List Int) (hg : goodP 8 l) (h : Ints w o c (.slice ao n cap) l) : Calls Try.prog 38 #[.int .u8 8, .slice ao n cap] w (OfOk w 8 l) := by
  have hgd := rgood_any w 8 (by simp [TagOk]) _ _ _ _ h
  rw [decide_eq_true hg] at hgd
  clear hg h
  go_enter Try.func38, Try.ntmps38
  go_wp2_with fail
  refine hgd.mono ?_
  rintro e w0 ⟨rfl, m, rfl⟩
  clear hgd
  go_wp2_with fail
  refine (rports_any _ 1 1 (by omega)).mono ?_
  rintro e w1 ⟨v1, rfl, ho1, hb1⟩
  have HO1 := Lib.hid ho1
  clear ho1
  go_wp2_with fail
  refine (rports_any _ 1 1 (by omega)).mono ?_
  rintro e w2 ⟨v2, rfl, ho2, hb2⟩
  have HO2 := Lib.hid ho2
  clear ho2
  go_wp2
  go_ret3
  obtain ⟨q1, q2, q3⟩ := of_fin (below_n (Below.refl _ w) m) HO1.out hb1 (Below.refl _ _) HO2.out hb2
  exact ⟨v1, v2, rfl, q1, q2, q3⟩
theorem rof_7 {o : Col} {c : Nat} (w : World) (ao : Option Addr) (n cap : Nat) (l : List Int) (hg : goodP 7 l) (h : Ints w o c (.slice ao n cap) l) : Calls Try.prog 38 #[.int .u8 7, .slice ao n cap] w (OfOk w 7 l) := by
  have hgd := rgood_any w 7 (by simp [TagOk]) _ _ _ _ h
  rw [decide_eq_true hg] at hgd
  clear hg h
  go_enter Try.func38, Try.ntmps38
  go_wp2_with fail
  refine hgd.mono ?_
  rintro e w0 ⟨rfl, m, rfl⟩
  clear hgd
  go_wp2_with fail
  refine (rports_any _ 2 1 (by omega)).mono ?_
  rintro e w1 ⟨v1, rfl, ho1, hb1⟩
  have HO1 := Lib.hid ho1
  clear ho1
  go_wp2_with fail
  refine (rports_any _ 1 1 (by omega)).mono ?_
  rintro e w2 ⟨v2, rfl, ho2, hb2⟩
  have HO2 := Lib.hid ho2
  clear ho2
  go_wp2
  go_ret3
  obtain ⟨q1, q2, q3⟩ := of_fin (below_n (Below.refl _ w) m) HO1.out hb1 (Below.refl _ _) HO2.out hb2
  exact ⟨v1, v2, rfl, q1, q2, q3⟩

theorem rof_3 {o : Col} {c : Nat} (w : World) (ao : Option Addr) (n cap : Nat) (l : List Int) (hg : goodP 3 l) (h : Ints w o c (.slice ao n cap) l) : Calls Try.prog 38 #[.int .u8 3, .slice ao n cap] w (OfOk w 3 l) := by
  have hp : oneP l 64 := by simpa [goodP] using hg
  obtain ⟨hl, hx1, hx2⟩ := hp
  obtain ⟨x, rfl⟩ : ∃ x, l = [x] := by
    match l, hl with
    | [x], _ => exact ⟨x, rfl⟩
  simp only [hd, List.getElem?_cons_zero, Option.getD_some] at hx1 hx2
  obtain rfl := h.len
  obtain ⟨b, off, rfl, -, hcap, -, -, hc⟩ := h.at (by simp)
  have c0 := hc 0 (by simp)
  simp at c0
  have hcapi : (1 : Int) ≤ cap := by simp at hcap; omega
  clear hc
  have hgd := rgood_any w 3 (by simp [TagOk]) _ _ _ _ h
  rw [decide_eq_true hg] at hgd
  clear hg h
  go_enter Try.func38, Try.ntmps38
  go_wp2_with fail
  refine hgd.mono ?_
  rintro e w0 ⟨rfl, m, rfl⟩
  clear hgd
  go_wp2_with fail
  refine (rports_any _ 1 x (by omega)).mono ?_
  rintro e w1 ⟨v1, rfl, ho1, hb1⟩
  have HO1 := Lib.hid ho1
  clear ho1
  go_wp2_with fail
  refine (rports_any _ 1 1 (by omega)).mono ?_
  rintro e w2 ⟨v2, rfl, ho2, hb2⟩
  have HO2 := Lib.hid ho2
  clear ho2
  go_wp2
  go_ret3
  obtain ⟨q1, q2, q3⟩ := of_fin (below_n (Below.refl _ w) m) HO1.out hb1 (Below.refl _ _) HO2.out hb2
  exact ⟨v1, v2, rfl, q1, q2, q3⟩
theorem rof_11 {o : Col} {c : Nat} (w : World) (ao : Option Addr) (n cap : Nat) (l : List Int) (hg : goodP 11 l) (h : Ints w o c (.slice ao n cap) l) : Calls Try.prog 38 #[.int .u8 11, .slice ao n cap] w (OfOk w 11 l) := by
  have hp : oneP l 64 := by simpa [goodP] using hg
  obtain ⟨hl, hx1, hx2⟩ := hp
  obtain ⟨x, rfl⟩ : ∃ x, l = [x] := by
    match l, hl with
    | [x], _ => exact ⟨x, rfl⟩
  simp only [hd, List.getElem?_cons_zero, Option.getD_some] at hx1 hx2
  obtain rfl := h.len
  obtain ⟨b, off, rfl, -, hcap, -, -, hc⟩ := h.at (by simp)
  have c0 := hc 0 (by simp)
  simp at c0
  have hcapi : (1 : Int) ≤ cap := by simp at hcap; omega
  clear hc
  have hgd := rgood_any w 11 (by simp [TagOk]) _ _ _ _ h
  rw [decide_eq_true hg] at hgd
  clear hg h
  go_enter Try.func38, Try.ntmps38
  go_wp2_with fail
  refine hgd.mono ?_
  rintro e w0 ⟨rfl, m, rfl⟩
  clear hgd
  go_wp2_with fail
  refine (rports_any _ 1 x (by omega)).mono ?_
  rintro e w1 ⟨v1, rfl, ho1, hb1⟩
  have HO1 := Lib.hid ho1
  clear ho1
  go_wp2
  go_ret3
  obtain ⟨q1, q3⟩ := of_fin1 (below_n (Below.refl _ w) m) HO1.out hb1
  exact ⟨v1, .slice none 0 0, rfl, q1, World.ownsRow_nil _ _ _ _, q3⟩
theorem rof_10 {o : Col} {c : Nat} (w : World) (ao : Option Addr) (n cap : Nat) (l : List Int) (hg : goodP 10 l) (h : Ints w o c (.slice ao n cap) l) : Calls Try.prog 38 #[.int .u8 10, .slice ao n cap] w (OfOk w 10 l) := by
  have hgd := rgood_any w 10 (by simp [TagOk]) _ _ _ _ h
  rw [decide_eq_true hg] at hgd
  clear hg h
  go_enter Try.func38, Try.ntmps38
  go_wp2_with fail
  refine hgd.mono ?_
  rintro e w0 ⟨rfl, m, rfl⟩
  clear hgd
  go_wp2_with fail
  refine (rports_any _ 1 1 (by omega)).mono ?_
  rintro e w1 ⟨v1, rfl, ho1, hb1⟩
  have HO1 := Lib.hid ho1
  clear ho1
  go_wp2
  go_ret3
  obtain ⟨q1, q3⟩ := of_fin1 (below_n (Below.refl _ w) m) HO1.out hb1
  exact ⟨.slice none 0 0, v1, rfl, World.ownsRow_nil _ _ _ _, q1, q3⟩
theorem rof_6 {o : Col} {c : Nat} (w : World) (ao : Option Addr) (n cap : Nat) (l : List Int) (hg : goodP 6 l) (h : Ints w o c (.slice ao n cap) l) : Calls Try.prog 38 #[.int .u8 6, .slice ao n cap] w (OfOk w 6 l) := by
  have hp : oneP l 16 := by simpa [goodP] using hg
  obtain ⟨hl, hx1, hx2⟩ := hp
  obtain ⟨x, rfl⟩ : ∃ x, l = [x] := by
    match l, hl with
    | [x], _ => exact ⟨x, rfl⟩
  simp only [hd, List.getElem?_cons_zero, Option.getD_some] at hx1 hx2
  obtain rfl := h.len
  obtain ⟨b, off, rfl, -, hcap, -, -, hc⟩ := h.at (by simp)
  have c0 := hc 0 (by simp)
  simp at c0
  have hcapi : (1 : Int) ≤ cap := by simp at hcap; omega
  clear hc
  have hgd := rgood_any w 6 (by simp [TagOk]) _ _ _ _ h
  rw [decide_eq_true hg] at hgd
  clear hg h
  go_enter Try.func38, Try.ntmps38
  go_wp2_with fail
  refine hgd.mono ?_
  rintro e w0 ⟨rfl, m, rfl⟩
  clear hgd
  obtain ⟨u, rfl⟩ : ∃ u : Nat, x = u := ⟨x.toNat, by omega⟩
  go_wp2_with fail
  refine (rports_any _ u 1 (by omega)).mono ?_
  rintro e w1 ⟨v1, rfl, ho1, hb1⟩
  have HO1 := Lib.hid ho1
  clear ho1
  go_wp2_with fail
  refine (rports_any _ 1 1 (by omega)).mono ?_
  rintro e w2 ⟨v2, rfl, ho2, hb2⟩
  have HO2 := Lib.hid ho2
  clear ho2
  go_wp2
  go_ret3
  obtain ⟨q1, q2, q3⟩ := of_fin (below_n (Below.refl _ w) m) HO1.out hb1 (Below.refl _ _) HO2.out hb2
  exact ⟨v1, v2, rfl, q1, q2, q3⟩

theorem rof_2 {o : Col} {c : Nat} (w : World) (ao : Option Addr) (n cap : Nat) (l : List Int) (hg : goodP 2 l) (h : Ints w o c (.slice ao n cap) l) : Calls Try.prog 38 #[.int .u8 2, .slice ao n cap] w (OfOk w 2 l) := by
  have hp : oneP l 64 := by simpa [goodP] using hg
  obtain ⟨hl, hx1, hx2⟩ := hp
  obtain ⟨x, rfl⟩ : ∃ x, l = [x] := by
    match l, hl with
    | [x], _ => exact ⟨x, rfl⟩
  simp only [hd, List.getElem?_cons_zero, Option.getD_some] at hx1 hx2
  obtain rfl := h.len
  obtain ⟨b, off, rfl, -, hcap, -, -, hc⟩ := h.at (by simp)
  have c0 := hc 0 (by simp)
  simp at c0
  have hcapi : (1 : Int) ≤ cap := by simp at hcap; omega
  clear hc
  have hgd := rgood_any w 2 (by simp [TagOk]) _ _ _ _ h
  rw [decide_eq_true hg] at hgd
  clear hg h
  go_enter Try.func38, Try.ntmps38
  go_wp2_with fail
  refine hgd.mono ?_
  rintro e w0 ⟨rfl, m, rfl⟩
  clear hgd
  go_wp2_with fail
  refine wp_region_rest (fun w' => w'.cell? ⟨b, off, none⟩ = some (.int .i64 x)) [1, 2, 3] [0] 5 (by kernel_rfl) (by kernel_rfl) rfl c0 ?_
  intro Q' hQ'
  simp only [pickOps, List.flatMap_cons, List.flatMap_nil, List.drop_succ_cons, List.drop_zero, List.take_succ_cons, List.take_zero, List.cons_append, List.nil_append, List.append_nil]
  repeat (first
    | (refine wpReads_skip (by rfl) ?_; (try simp only [Act.put, List.setIfInBounds_toArray, List.set_cons_zero, List.set_cons_succ]))
    | (refine wpReads_cons ?_ (by rfl) (by rfl) ?_ ?_; rotate_left; (intro wz hz; (try dsimp only at hz); go_simp; try with_reducible rfl); (try simp only [Act.put, List.setIfInBounds_toArray, List.set_cons_zero, List.set_cons_succ]))
    | (refine wpReads_any ?_ (by rfl) ?_ ?_; rotate_left; (intro wz; go_simp; try with_reducible rfl); (try simp only [Act.put, List.setIfInBounds_toArray, List.set_cons_zero, List.set_cons_succ])))
  refine wpReads_nil ?_
  refine wpAnyT_one (i := 0) (by kernel_rfl) ?_
  simp only [pickOps, List.flatMap_cons, List.flatMap_nil, List.drop_succ_cons, List.drop_zero, List.take_succ_cons, List.take_zero, List.cons_append, List.nil_append, List.append_nil]
  go_wp2_with fail
  refine (rports_any _ 1 1 (by omega)).mono ?_
  rintro e w1 ⟨v1, rfl, ho1, hb1⟩
  have HO1 := Lib.hid ho1
  clear ho1
  have hb1 : Below w.heap.size w w1 := below_ld (n := m + 1) hb1
  go_wp2
  refine ⟨fun _ hS => cell_later hb1 c0, ?_⟩
  refine wpAnyT_list (ks := [4, 5, 6, 7]) (fun _ _ hx h => hx.cell h) (by kernel_rfl) ?_
  simp only [pickOps, List.flatMap_cons, List.flatMap_nil, List.drop_succ_cons, List.drop_zero, List.take_succ_cons, List.take_zero, List.cons_append, List.nil_append, List.append_nil]
  go_wp2_with fail
  refine (rports_any _ 1 x (by omega)).mono ?_
  rintro e w2 ⟨v2, rfl, ho2, hb2⟩
  have HO2 := Lib.hid ho2
  clear ho2
  go_wp2
  go_ret3
  obtain ⟨q1, q2, q3⟩ := of_fin (Below.refl _ w) HO1.out hb1 (Below.refl _ _) HO2.out hb2
  exact ⟨v1, v2, rfl, q1, q2, q3⟩

theorem rof_9 {o : Col} {c : Nat} (w : World) (ao : Option Addr) (n cap : Nat) (l : List Int) (hg : goodP 9 l) (h : Ints w o c (.slice ao n cap) l) : Calls Try.prog 38 #[.int .u8 9, .slice ao n cap] w (OfOk w 9 l) := by
  have hp : oneP l 16 := by simpa [goodP] using hg
  obtain ⟨hl, hx1, hx2⟩ := hp
  obtain ⟨x, rfl⟩ : ∃ x, l = [x] := by
    match l, hl with
    | [x], _ => exact ⟨x, rfl⟩
  simp only [hd, List.getElem?_cons_zero, Option.getD_some] at hx1 hx2
  obtain rfl := h.len
  obtain ⟨b, off, rfl, -, hcap, -, -, hc⟩ := h.at (by simp)
  have c0 := hc 0 (by simp)
  simp at c0
  have hcapi : (1 : Int) ≤ cap := by simp at hcap; omega
  clear hc
  have hgd := rgood_any w 9 (by simp [TagOk]) _ _ _ _ h
  rw [decide_eq_true hg] at hgd
  clear hg h
  go_enter Try.func38, Try.ntmps38
  go_wp2_with fail
  refine hgd.mono ?_
  rintro e w0 ⟨rfl, m, rfl⟩
  clear hgd
  obtain ⟨u, hu⟩ : ∃ u : Nat, x = u := ⟨x.toNat, by omega⟩
  subst hu
  go_wp2_with fail
  refine wp_region_rest (fun w' => w'.cell? ⟨b, off, none⟩ = some (.int .i64 u)) [1, 2, 3] [0] 5 (by kernel_rfl) (by kernel_rfl) rfl c0 ?_
  intro Q' hQ'
  simp only [pickOps, List.flatMap_cons, List.flatMap_nil, List.drop_succ_cons, List.drop_zero, List.take_succ_cons, List.take_zero, List.cons_append, List.nil_append, List.append_nil]
  repeat (first
    | (refine wpReads_skip (by rfl) ?_; (try simp only [Act.put, List.setIfInBounds_toArray, List.set_cons_zero, List.set_cons_succ]))
    | (refine wpReads_cons ?_ (by rfl) (by rfl) ?_ ?_; rotate_left; (intro wz hz; (try dsimp only at hz); go_simp; try with_reducible rfl); (try simp only [Act.put, List.setIfInBounds_toArray, List.set_cons_zero, List.set_cons_succ]))
    | (refine wpReads_any ?_ (by rfl) ?_ ?_; rotate_left; (intro wz; go_simp; try with_reducible rfl); (try simp only [Act.put, List.setIfInBounds_toArray, List.set_cons_zero, List.set_cons_succ])))
  refine wpReads_nil ?_
  refine wpAnyT_one (i := 0) (by kernel_rfl) ?_
  simp only [pickOps, List.flatMap_cons, List.flatMap_nil, List.drop_succ_cons, List.drop_zero, List.take_succ_cons, List.take_zero, List.cons_append, List.nil_append, List.append_nil]
  go_wp2_with fail
  refine (rports_any _ 1 1 (by omega)).mono ?_
  rintro e w1 ⟨v1, rfl, ho1, hb1⟩
  have HO1 := Lib.hid ho1
  clear ho1
  have hb1 : Below w.heap.size w w1 := below_ld (n := m + 1) hb1
  go_wp2
  refine ⟨fun _ hS => cell_later hb1 c0, ?_⟩
  refine wpAnyT_list (ks := [4, 5, 6, 7]) (fun _ _ hx h => hx.cell h) (by kernel_rfl) ?_
  simp only [pickOps, List.flatMap_cons, List.flatMap_nil, List.drop_succ_cons, List.drop_zero, List.take_succ_cons, List.take_zero, List.cons_append, List.nil_append, List.append_nil]
  go_wp2_with fail
  refine (rports_any _ u 1 (by omega)).mono ?_
  rintro e w2 ⟨v2, rfl, ho2, hb2⟩
  have HO2 := Lib.hid ho2
  clear ho2
  go_wp2
  go_ret3
  obtain ⟨q1, q2, q3⟩ := of_fin (Below.refl _ w) HO1.out hb1 (Below.refl _ _) HO2.out hb2
  exact ⟨v1, v2, rfl, q1, q2, q3⟩

theorem rof_4 {o : Col} {c : Nat} (w : World) (ao : Option Addr) (n cap : Nat) (l : List Int) (hg : goodP 4 l) (h : Ints w o c (.slice ao n cap) l) : Calls Try.prog 38 #[.int .u8 4, .slice ao n cap] w (OfOk w 4 l) := by
  have hp : pairP l := by simpa [goodP] using hg
  obtain ⟨hl, hx, hy, hxy⟩ := hp
  obtain ⟨x, y, rfl⟩ : ∃ x y, l = [x, y] := by
    match l, hl with
    | [x, y], _ => exact ⟨x, y, rfl⟩
  simp only [hd, hd1, List.getElem?_cons_zero, List.getElem?_cons_succ, Option.getD_some] at hx hy hxy
  obtain rfl := h.len
  obtain ⟨b, off, rfl, -, hcap, -, -, hc⟩ := h.at (by simp)
  have c0 := hc 0 (by simp)
  have c1 := hc 1 (by simp)
  simp at c0 c1
  have hcapi : (2 : Int) ≤ cap := by simp at hcap; omega
  clear hc
  have hgd := rgood_any w 4 (by simp [TagOk]) _ _ _ _ h
  rw [decide_eq_true hg] at hgd
  clear hg h
  go_enter Try.func38, Try.ntmps38
  go_wp2_with fail
  refine hgd.mono ?_
  rintro e w0 ⟨rfl, m, rfl⟩
  clear hgd
  obtain ⟨u, hu⟩ : ∃ u : Nat, x = u := ⟨x.toNat, by omega⟩
  obtain ⟨k, hk⟩ : ∃ k : Nat, y = k := ⟨y.toNat, by omega⟩
  subst hu hk
  have hn0 : (0 : Int) ≤ (u : Int) * k := Int.mul_nonneg (by omega) (by omega)
  have hw : wrap64 ((u : Int) * k) = (u : Int) * k := IntWalk.wrap64_in _ (by omega)
  have hw2 : IntKind.i64.wrap ((u : Int) * k) = (u : Int) * k := IntWalk.i64_in _ (by omega)
  go_wp2_with fail
  refine wp_region_rest (fun w' => w'.cell? ⟨b, off, none⟩ = some (.int .i64 u) ∧ w'.cell? ⟨b, off + 1, none⟩ = some (.int .i64 k)) [0, 1, 2, 3, 4, 5, 7, 8, 9, 10, 11, 12, 13] [6] 5 (by kernel_rfl) (by kernel_rfl) rfl ⟨c0, c1⟩ ?_
  intro Q' hQ'
  simp only [pickOps, List.flatMap_cons, List.flatMap_nil, List.drop_succ_cons, List.drop_zero, List.take_succ_cons, List.take_zero, List.cons_append, List.nil_append, List.append_nil]
  repeat (first
    | (refine wpReads_skip (by rfl) ?_; (try simp only [Act.put, List.setIfInBounds_toArray, List.set_cons_zero, List.set_cons_succ]))
    | (refine wpReads_cons ?_ (by rfl) (by rfl) ?_ ?_; rotate_left; (intro wz hz; (try dsimp only at hz); go_simp; try with_reducible rfl); (try simp only [Act.put, List.setIfInBounds_toArray, List.set_cons_zero, List.set_cons_succ]))
    | (refine wpReads_any ?_ (by rfl) ?_ ?_; rotate_left; (intro wz; go_simp; try with_reducible rfl); (try simp only [Act.put, List.setIfInBounds_toArray, List.set_cons_zero, List.set_cons_succ])))
  refine wpReads_nil ?_
  refine wpAnyT_one (i := 6) (by kernel_rfl) ?_
  simp only [pickOps, List.flatMap_cons, List.flatMap_nil, List.drop_succ_cons, List.drop_zero, List.take_succ_cons, List.take_zero, List.cons_append, List.nil_append, List.append_nil]
  go_wp2_with fail
  refine (rports_any _ u k (by omega)).mono ?_
  rintro e w1 ⟨v1, rfl, ho1, hb1⟩
  have HO1 := Lib.hid ho1
  clear ho1
  have hb1 : Below w.heap.size w w1 := below_ld (n := m + 1) hb1
  go_wp2
  refine ⟨fun _ hS => ⟨cell_later hb1 c0, cell_later hb1 c1⟩, ?_⟩
  refine wpAnyT_list (ks := [14, 15, 16, 17]) (fun _ _ hx h => ⟨hx.cell h.1, hx.cell h.2⟩) (by kernel_rfl) ?_
  simp only [pickOps, List.flatMap_cons, List.flatMap_nil, List.drop_succ_cons, List.drop_zero, List.take_succ_cons, List.take_zero, List.cons_append, List.nil_append, List.append_nil]
  go_wp2_with fail
  refine (rports_any _ 1 ((u : Int) * k) (by omega)).mono ?_
  rintro e w2 ⟨v2, rfl, ho2, hb2⟩
  have HO2 := Lib.hid ho2
  clear ho2
  go_wp2
  go_ret3
  obtain ⟨q1, q2, q3⟩ := of_fin (Below.refl _ w) HO1.out hb1 (Below.refl _ _) HO2.out hb2
  exact ⟨v1, v2, rfl, q1, q2, q3⟩
theorem rof_5 {o : Col} {c : Nat} (w : World) (ao : Option Addr) (n cap : Nat) (l : List Int) (hg : goodP 5 l) (h : Ints w o c (.slice ao n cap) l) : Calls Try.prog 38 #[.int .u8 5, .slice ao n cap] w (OfOk w 5 l) := by
  have hp : pairP l := by simpa [goodP] using hg
  obtain ⟨hl, hx, hy, hxy⟩ := hp
  obtain ⟨x, y, rfl⟩ : ∃ x y, l = [x, y] := by
    match l, hl with
    | [x, y], _ => exact ⟨x, y, rfl⟩
  simp only [hd, hd1, List.getElem?_cons_zero, List.getElem?_cons_succ, Option.getD_some] at hx hy hxy
  obtain rfl := h.len
  obtain ⟨b, off, rfl, -, hcap, -, -, hc⟩ := h.at (by simp)
  have c0 := hc 0 (by simp)
  have c1 := hc 1 (by simp)
  simp at c0 c1
  have hcapi : (2 : Int) ≤ cap := by simp at hcap; omega
  clear hc
  have hgd := rgood_any w 5 (by simp [TagOk]) _ _ _ _ h
  rw [decide_eq_true hg] at hgd
  clear hg h
  go_enter Try.func38, Try.ntmps38
  go_wp2_with fail
  refine hgd.mono ?_
  rintro e w0 ⟨rfl, m, rfl⟩
  clear hgd
  obtain ⟨u, hu⟩ : ∃ u : Nat, x = u := ⟨x.toNat, by omega⟩
  obtain ⟨k, hk⟩ : ∃ k : Nat, y = k := ⟨y.toNat, by omega⟩
  subst hu hk
  have hn0 : (0 : Int) ≤ (u : Int) * k := Int.mul_nonneg (by omega) (by omega)
  have hw : wrap64 ((u : Int) * k) = (u : Int) * k := IntWalk.wrap64_in _ (by omega)
  have hw2 : IntKind.i64.wrap ((u : Int) * k) = (u : Int) * k := IntWalk.i64_in _ (by omega)
  go_wp2_with fail
  refine wp_region_rest (fun w' => w'.cell? ⟨b, off, none⟩ = some (.int .i64 u) ∧ w'.cell? ⟨b, off + 1, none⟩ = some (.int .i64 k)) [0, 1, 2, 3, 4, 5, 6, 8, 9, 10, 11, 12, 13] [7] 5 (by kernel_rfl) (by kernel_rfl) rfl ⟨c0, c1⟩ ?_
  intro Q' hQ'
  simp only [pickOps, List.flatMap_cons, List.flatMap_nil, List.drop_succ_cons, List.drop_zero, List.take_succ_cons, List.take_zero, List.cons_append, List.nil_append, List.append_nil]
  repeat (first
    | (refine wpReads_skip (by rfl) ?_; (try simp only [Act.put, List.setIfInBounds_toArray, List.set_cons_zero, List.set_cons_succ]))
    | (refine wpReads_cons ?_ (by rfl) (by rfl) ?_ ?_; rotate_left; (intro wz hz; (try dsimp only at hz); go_simp; try with_reducible rfl); (try simp only [Act.put, List.setIfInBounds_toArray, List.set_cons_zero, List.set_cons_succ]))
    | (refine wpReads_any ?_ (by rfl) ?_ ?_; rotate_left; (intro wz; go_simp; try with_reducible rfl); (try simp only [Act.put, List.setIfInBounds_toArray, List.set_cons_zero, List.set_cons_succ])))
  refine wpReads_nil ?_
  refine wpAnyT_one (i := 7) (by kernel_rfl) ?_
  simp only [pickOps, List.flatMap_cons, List.flatMap_nil, List.drop_succ_cons, List.drop_zero, List.take_succ_cons, List.take_zero, List.cons_append, List.nil_append, List.append_nil]
  go_wp2_with fail
  refine (rports_any _ 1 ((u : Int) * k) (by omega)).mono ?_
  rintro e w1 ⟨v1, rfl, ho1, hb1⟩
  have HO1 := Lib.hid ho1
  clear ho1
  have hb1 : Below w.heap.size w w1 := below_ld (n := m + 1) hb1
  go_wp2
  refine ⟨fun _ hS => ⟨cell_later hb1 c0, cell_later hb1 c1⟩, ?_⟩
  refine wpAnyT_list (ks := [14, 15, 16, 17]) (fun _ _ hx h => ⟨hx.cell h.1, hx.cell h.2⟩) (by kernel_rfl) ?_
  simp only [pickOps, List.flatMap_cons, List.flatMap_nil, List.drop_succ_cons, List.drop_zero, List.take_succ_cons, List.take_zero, List.cons_append, List.nil_append, List.append_nil]
  go_wp2_with fail
  refine (rports_any _ u k (by omega)).mono ?_
  rintro e w2 ⟨v2, rfl, ho2, hb2⟩
  have HO2 := Lib.hid ho2
  clear ho2
  go_wp2
  go_ret3
  obtain ⟨q1, q2, q3⟩ := of_fin (Below.refl _ w) HO1.out hb1 (Below.refl _ _) HO2.out hb2
  exact ⟨v1, v2, rfl, q1, q2, q3⟩

theorem rof_ok {o : Col} {c : Nat} (w : World) (t : Int) (ao : Option Addr) (n cap : Nat) (ps : List Int) (hg : goodP t ps) (h : Ints w o c (.slice ao n cap) ps) : Calls Try.prog 38 #[.int .u8 t, .slice ao n cap] w (OfOk w t ps) := by
  rcases goodP_cases hg with rfl | rfl | rfl | rfl | rfl | rfl | rfl | rfl | rfl | rfl | rfl
  · exact rof_1 w ao n cap ps hg h
  · exact rof_2 w ao n cap ps hg h
  · exact rof_3 w ao n cap ps hg h
  · exact rof_4 w ao n cap ps hg h
  · exact rof_5 w ao n cap ps hg h
  · exact rof_6 w ao n cap ps hg h
  · exact rof_7 w ao n cap ps hg h
  · exact rof_8 w ao n cap ps hg h
  · exact rof_9 w ao n cap ps hg h
  · exact rof_10 w ao n cap ps hg h
  · exact rof_11 w ao n cap ps hg h
theorem rof_no {o : Col} {c : Nat} (w : World) (t : Int) (ao : Option Addr) (n cap : Nat) (ps : List Int) (hg : ¬ goodP t ps) (h : Ints w o c (.slice ao n cap) ps) : Calls Try.prog 38 #[.int .u8 t, .slice ao n cap] w (OfNo w (errP t)) := by
  unfold errP
  by_cases ht : 1 ≤ t ∧ t ≤ 11
  · rw [if_pos ht]; exact rof_bad w t (by unfold TagOk; omega) ao n cap ps hg h
  · rw [if_neg ht]; exact rof_tag w t _ (by omega)
end Go.Proofs.Ytknmiiajeafjpaa
