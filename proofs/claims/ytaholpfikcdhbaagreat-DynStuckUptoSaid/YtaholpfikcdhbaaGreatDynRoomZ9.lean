/- The reference's Of, where the parameters may be. -/
import Derived.Test.YtaholpfikcdhbaaGreatDynRoomZ8
import Derived.Test.YtaholpfikcdhbaaGreatDynRoomZ4
import Derived.Test.YtaholpfikcdhbaaGreatDynRoomZ7
import Derived.Test.YtaholpfikcdhbaaGreatDynRoomZ2
import Derived.Laws.ResultCell
import Derived.Laws.Rows
namespace Go.Proofs.YtaholpfikcdhbaaGreat
open Go.RowKit
theorem rof_1 {o : Col} {c : Nat} (w : World) (ao : Option Addr) (n cap : Nat) (l : List Int) (hg : goodP 1 l) (h : Ints w o c (.slice ao n cap) l) : Calls Tryz.prog 68 #[.int .u8 1, .slice ao n cap] w (OfOk w 1 l) := by
 have hgd := rgood_any w 1 (by simp [TagOk]) _ _ _ _ h
 rw [decide_eq_true hg] at hgd
 clear hg h
 go_enter Tryz.func68, Tryz.ntmps68
 go_wp2_with fail
 refine hgd.mono ?_
 rintro e w0 ⟨rfl, m, rfl⟩
 clear hgd
 go_wp2_with fail
 refine (rports_any _ 1 1 (by omega)).mono ?_
 rintro e w1 ⟨v1, rfl, ho1, hb1⟩
 have HO1 := Lib.hid ho1
 clear ho1
 go_wp2_with fail
 refine (rports_any _ 1 1 (by omega)).mono ?_
 rintro e w2 ⟨v2, rfl, ho2, hb2⟩
 have HO2 := Lib.hid ho2
 clear ho2
 go_wp2
 go_ret3
 obtain ⟨q1, q2, q3⟩ := of_fin (below_n (Below.refl _ w) m) HO1.out hb1 (Below.refl _ _) HO2.out hb2
 exact ⟨v1, v2, rfl, q1, q2, q3⟩
theorem rof_8 {o : Col} {c : Nat} (w : World) (ao : Option Addr) (n cap : Nat) (l : List Int) (hg : goodP 8 l) (h : Ints w o c (.slice ao n cap) l) : Calls Tryz.prog 68 #[.int .u8 8, .slice ao n cap] w (OfOk w 8 l) := by
 have hgd := rgood_any w 8 (by simp [TagOk]) _ _ _ _ h
 rw [decide_eq_true hg] at hgd
 clear hg h
 go_enter Tryz.func68, Tryz.ntmps68
 go_wp2_with fail
 refine hgd.mono ?_
 rintro e w0 ⟨rfl, m, rfl⟩
 clear hgd
 go_wp2_with fail
 refine (rports_any _ 1 1 (by omega)).mono ?_
 rintro e w1 ⟨v1, rfl, ho1, hb1⟩
 have HO1 := Lib.hid ho1
 clear ho1
 go_wp2_with fail
 refine (rports_any _ 1 1 (by omega)).mono ?_
 rintro e w2 ⟨v2, rfl, ho2, hb2⟩
 have HO2 := Lib.hid ho2
 clear ho2
 go_wp2
 go_ret3
 obtain ⟨q1, q2, q3⟩ := of_fin (below_n (Below.refl _ w) m) HO1.out hb1 (Below.refl _ _) HO2.out hb2
 exact ⟨v1, v2, rfl, q1, q2, q3⟩
theorem rof_7 {o : Col} {c : Nat} (w : World) (ao : Option Addr) (n cap : Nat) (l : List Int) (hg : goodP 7 l) (h : Ints w o c (.slice ao n cap) l) : Calls Tryz.prog 68 #[.int .u8 7, .slice ao n cap] w (OfOk w 7 l) := by
 have hgd := rgood_any w 7 (by simp [TagOk]) _ _ _ _ h
 rw [decide_eq_true hg] at hgd
 clear hg h
 go_enter Tryz.func68, Tryz.ntmps68
 go_wp2_with fail
 refine hgd.mono ?_
 rintro e w0 ⟨rfl, m, rfl⟩
 clear hgd
 go_wp2_with fail
 refine (rports_any _ 2 1 (by omega)).mono ?_
 rintro e w1 ⟨v1, rfl, ho1, hb1⟩
 have HO1 := Lib.hid ho1
 clear ho1
 go_wp2_with fail
 refine (rports_any _ 1 1 (by omega)).mono ?_
 rintro e w2 ⟨v2, rfl, ho2, hb2⟩
 have HO2 := Lib.hid ho2
 clear ho2
 go_wp2
 go_ret3
 obtain ⟨q1, q2, q3⟩ := of_fin (below_n (Below.refl _ w) m) HO1.out hb1 (Below.refl _ _) HO2.out hb2
 exact ⟨v1, v2, rfl, q1, q2, q3⟩
theorem rof_3 {o : Col} {c : Nat} (w : World) (ao : Option Addr) (n cap : Nat) (l : List Int) (hg : goodP 3 l) (h : Ints w o c (.slice ao n cap) l) : Calls Tryz.prog 68 #[.int .u8 3, .slice ao n cap] w (OfOk w 3 l) := by
 have hp : oneP l 64 := by simpa [goodP] using hg
 obtain ⟨hl, hx1, hx2⟩ := hp
 obtain ⟨x, rfl⟩ : ∃ x, l = [x] := by
  match l, hl with
  | [x], _ => exact ⟨x, rfl⟩
 simp only [hd, List.getElem?_cons_zero, Option.getD_some] at hx1 hx2
 obtain rfl := h.len
 obtain ⟨b, off, rfl, -, hcap, -, -, hc⟩ := h.at (by simp)
 have c0 := hc 0 (by simp)
 simp at c0
 have hcapi : (1 : Int) ≤ cap := by simp at hcap; omega
 clear hc
 have hgd := rgood_any w 3 (by simp [TagOk]) _ _ _ _ h
 rw [decide_eq_true hg] at hgd
 clear hg h
 go_enter Tryz.func68, Tryz.ntmps68
 go_wp2_with fail
 refine hgd.mono ?_
 rintro e w0 ⟨rfl, m, rfl⟩
 clear hgd
 go_wp2_with fail
 refine (rports_any _ 1 x (by omega)).mono ?_
 rintro e w1 ⟨v1, rfl, ho1, hb1⟩
 have HO1 := Lib.hid ho1
 clear ho1
 go_wp2_with fail
 refine (rports_any _ 1 1 (by omega)).mono ?_
 rintro e w2 ⟨v2, rfl, ho2, hb2⟩
 have HO2 := Lib.hid ho2
 clear ho2
 go_wp2
 go_ret3
 obtain ⟨q1, q2, q3⟩ := of_fin (below_n (Below.refl _ w) m) HO1.out hb1 (Below.refl _ _) HO2.out hb2
 exact ⟨v1, v2, rfl, q1, q2, q3⟩
theorem rof_11 {o : Col} {c : Nat} (w : World) (ao : Option Addr) (n cap : Nat) (l : List Int) (hg : goodP 11 l) (h : Ints w o c (.slice ao n cap) l) : Calls Tryz.prog 68 #[.int .u8 11, .slice ao n cap] w (OfOk w 11 l) := by
 have hp : oneP l 64 := by simpa [goodP] using hg
 obtain ⟨hl, hx1, hx2⟩ := hp
 obtain ⟨x, rfl⟩ : ∃ x, l = [x] := by
  match l, hl with
  | [x], _ => exact ⟨x, rfl⟩
 simp only [hd, List.getElem?_cons_zero, Option.getD_some] at hx1 hx2
 obtain rfl := h.len
 obtain ⟨b, off, rfl, -, hcap, -, -, hc⟩ := h.at (by simp)
 have c0 := hc 0 (by simp)
 simp at c0
 have hcapi : (1 : Int) ≤ cap := by simp at hcap; omega
 clear hc
 have hgd := rgood_any w 11 (by simp [TagOk]) _ _ _ _ h
 rw [decide_eq_true hg] at hgd
 clear hg h
 go_enter Tryz.func68, Tryz.ntmps68
 go_wp2_with fail
 refine hgd.mono ?_
 rintro e w0 ⟨rfl, m, rfl⟩
 clear hgd
 go_wp2_with fail
 refine (rports_any _ 1 x (by omega)).mono ?_
 rintro e w1 ⟨v1, rfl, ho1, hb1⟩
 have HO1 := Lib.hid ho1
 clear ho1
 go_wp2
 go_ret3
 obtain ⟨q1, q3⟩ := of_fin1 (below_n (Below.refl _ w) m) HO1.out hb1
 exact ⟨v1, .slice none 0 0, rfl, q1, World.ownsRow_nil _ _ _ _, q3⟩
theorem rof_10 {o : Col} {c : Nat} (w : World) (ao : Option Addr) (n cap : Nat) (l : List Int) (hg : goodP 10 l) (h : Ints w o c (.slice ao n cap) l) : Calls Tryz.prog 68 #[.int .u8 10, .slice ao n cap] w (OfOk w 10 l) := by
 have hgd := rgood_any w 10 (by simp [TagOk]) _ _ _ _ h
 rw [decide_eq_true hg] at hgd
 clear hg h
 go_enter Tryz.func68, Tryz.ntmps68
 go_wp2_with fail
 refine hgd.mono ?_
 rintro e w0 ⟨rfl, m, rfl⟩
 clear hgd
 go_wp2_with fail
 refine (rports_any _ 1 1 (by omega)).mono ?_
 rintro e w1 ⟨v1, rfl, ho1, hb1⟩
 have HO1 := Lib.hid ho1
 clear ho1
 go_wp2
 go_ret3
 obtain ⟨q1, q3⟩ := of_fin1 (below_n (Below.refl _ w) m) HO1.out hb1
 exact ⟨.slice none 0 0, v1, rfl, World.ownsRow_nil _ _ _ _, q1, q3⟩
theorem rof_6 {o : Col} {c : Nat} (w : World) (ao : Option Addr) (n cap : Nat) (l : List Int) (hg : goodP 6 l) (h : Ints w o c (.slice ao n cap) l) : Calls Tryz.prog 68 #[.int .u8 6, .slice ao n cap] w (OfOk w 6 l) := by
 have hp : oneP l 16 := by simpa [goodP] using hg
 obtain ⟨hl, hx1, hx2⟩ := hp
 obtain ⟨x, rfl⟩ : ∃ x, l = [x] := by
  match l, hl with
  | [x], _ => exact ⟨x, rfl⟩
 simp only [hd, List.getElem?_cons_zero, Option.getD_some] at hx1 hx2
 obtain rfl := h.len
 obtain ⟨b, off, rfl, -, hcap, -, -, hc⟩ := h.at (by simp)
 have c0 := hc 0 (by simp)
 simp at c0
 have hcapi : (1 : Int) ≤ cap := by simp at hcap; omega
 clear hc
 have hgd := rgood_any w 6 (by simp [TagOk]) _ _ _ _ h
 rw [decide_eq_true hg] at hgd
 clear hg h
 go_enter Tryz.func68, Tryz.ntmps68
 go_wp2_with fail
 refine hgd.mono ?_
 rintro e w0 ⟨rfl, m, rfl⟩
 clear hgd
 obtain ⟨u, rfl⟩ : ∃ u : Nat, x = u := ⟨x.toNat, by omega⟩
 go_wp2_with fail
 refine (rports_any _ u 1 (by omega)).mono ?_
 rintro e w1 ⟨v1, rfl, ho1, hb1⟩
 have HO1 := Lib.hid ho1
 clear ho1
 go_wp2_with fail
 refine (rports_any _ 1 1 (by omega)).mono ?_
 rintro e w2 ⟨v2, rfl, ho2, hb2⟩
 have HO2 := Lib.hid ho2
 clear ho2
 go_wp2
 go_ret3
 obtain ⟨q1, q2, q3⟩ := of_fin (below_n (Below.refl _ w) m) HO1.out hb1 (Below.refl _ _) HO2.out hb2
 exact ⟨v1, v2, rfl, q1, q2, q3⟩
theorem rof_2 {o : Col} {c : Nat} (w : World) (ao : Option Addr) (n cap : Nat) (l : List Int) (hg : goodP 2 l) (h : Ints w o c (.slice ao n cap) l) : Calls Tryz.prog 68 #[.int .u8 2, .slice ao n cap] w (OfOk w 2 l) := by
 have hp : oneP l 64 := by simpa [goodP] using hg
 obtain ⟨hl, hx1, hx2⟩ := hp
 obtain ⟨x, rfl⟩ : ∃ x, l = [x] := by
  match l, hl with
  | [x], _ => exact ⟨x, rfl⟩
 simp only [hd, List.getElem?_cons_zero, Option.getD_some] at hx1 hx2
 obtain rfl := h.len
 obtain ⟨b, off, rfl, -, hcap, -, -, hc⟩ := h.at (by simp)
 have c0 := hc 0 (by simp)
 simp at c0
 have hcapi : (1 : Int) ≤ cap := by simp at hcap; omega
 clear hc
 have hgd := rgood_any w 2 (by simp [TagOk]) _ _ _ _ h
 rw [decide_eq_true hg] at hgd
 clear hg h
 go_enter Tryz.func68, Tryz.ntmps68
 go_wp2_with fail
 refine hgd.mono ?_
 rintro e w0 ⟨rfl, m, rfl⟩
 clear hgd
 go_wp2_with fail
 refine wp_region_rest (fun w' => w'.cell? ⟨b, off, none⟩ = some (.int .i64 x)) [1, 2, 3] [0] 5 (by kernel_rfl) (by kernel_rfl) rfl c0 ?_
 intro Q' hQ'
 simp only [pickOps, List.flatMap_cons, List.flatMap_nil, List.drop_succ_cons, List.drop_zero, List.take_succ_cons, List.take_zero, List.cons_append, List.nil_append, List.append_nil]
 repeat (first
  | (refine wpReads_skip (by rfl) ?_; (try simp only [Act.put, List.setIfInBounds_toArray, List.set_cons_zero, List.set_cons_succ]))
  | (refine wpReads_cons ?_ (by rfl) (by rfl) ?_ ?_; rotate_left; (intro wz hz; (try dsimp only at hz); go_simp; try with_reducible rfl); (try simp only [Act.put, List.setIfInBounds_toArray, List.set_cons_zero, List.set_cons_succ]))
  | (refine wpReads_any ?_ (by rfl) ?_ ?_; rotate_left; (intro wz; go_simp; try with_reducible rfl); (try simp only [Act.put, List.setIfInBounds_toArray, List.set_cons_zero, List.set_cons_succ])))
 refine wpReads_nil ?_
 refine wpAnyT_one (i := 0) (by kernel_rfl) ?_
 simp only [pickOps, List.flatMap_cons, List.flatMap_nil, List.drop_zero, List.take_succ_cons, List.take_zero, List.append_nil]
 go_wp2_with fail
 refine (rports_any _ 1 1 (by omega)).mono ?_
 rintro e w1 ⟨v1, rfl, ho1, hb1⟩
 have HO1 := Lib.hid ho1
 clear ho1
 have hb1 : Below w.heap.size w w1 := below_ld (n := m + 1) hb1
 go_wp2
 refine ⟨fun _ hS => cell_later hb1 c0, ?_⟩
 refine wpAnyT_list (ks := [4, 5, 6, 7]) (fun _ _ hx h => hx.cell h) (by kernel_rfl) ?_
 simp only [pickOps, List.flatMap_cons, List.flatMap_nil, List.drop_succ_cons, List.drop_zero, List.take_succ_cons, List.take_zero, List.cons_append, List.nil_append, List.append_nil]
 go_wp2_with fail
 refine (rports_any _ 1 x (by omega)).mono ?_
 rintro e w2 ⟨v2, rfl, ho2, hb2⟩
 have HO2 := Lib.hid ho2
 clear ho2
 go_wp2
 go_ret3
 obtain ⟨q1, q2, q3⟩ := of_fin (Below.refl _ w) HO1.out hb1 (Below.refl _ _) HO2.out hb2
 exact ⟨v1, v2, rfl, q1, q2, q3⟩
theorem rof_9 {o : Col} {c : Nat} (w : World) (ao : Option Addr) (n cap : Nat) (l : List Int) (hg : goodP 9 l) (h : Ints w o c (.slice ao n cap) l) : Calls Tryz.prog 68 #[.int .u8 9, .slice ao n cap] w (OfOk w 9 l) := by
 have hp : oneP l 16 := by simpa [goodP] using hg
 obtain ⟨hl, hx1, hx2⟩ := hp
 obtain ⟨x, rfl⟩ : ∃ x, l = [x] := by
  match l, hl with
  | [x], _ => exact ⟨x, rfl⟩
 simp only [hd, List.getElem?_cons_zero, Option.getD_some] at hx1 hx2
 obtain rfl := h.len
 obtain ⟨b, off, rfl, -, hcap, -, -, hc⟩ := h.at (by simp)
 have c0 := hc 0 (by simp)
 simp at c0
 have hcapi : (1 : Int) ≤ cap := by simp at hcap; omega
 clear hc
 have hgd := rgood_any w 9 (by simp [TagOk]) _ _ _ _ h
 rw [decide_eq_true hg] at hgd
 clear hg h
 go_enter Tryz.func68, Tryz.ntmps68
 go_wp2_with fail
 refine hgd.mono ?_
 rintro e w0 ⟨rfl, m, rfl⟩
 clear hgd
 obtain ⟨u, hu⟩ : ∃ u : Nat, x = u := ⟨x.toNat, by omega⟩
 subst hu
 go_wp2_with fail
 refine wp_region_rest (fun w' => w'.cell? ⟨b, off, none⟩ = some (.int .i64 u)) [1, 2, 3] [0] 5 (by kernel_rfl) (by kernel_rfl) rfl c0 ?_
 intro Q' hQ'
 simp only [pickOps, List.flatMap_cons, List.flatMap_nil, List.drop_succ_cons, List.drop_zero, List.take_succ_cons, List.take_zero, List.cons_append, List.nil_append, List.append_nil]
 repeat (first
  | (refine wpReads_skip (by rfl) ?_; (try simp only [Act.put, List.setIfInBounds_toArray, List.set_cons_zero, List.set_cons_succ]))
  | (refine wpReads_cons ?_ (by rfl) (by rfl) ?_ ?_; rotate_left; (intro wz hz; (try dsimp only at hz); go_simp; try with_reducible rfl); (try simp only [Act.put, List.setIfInBounds_toArray, List.set_cons_zero, List.set_cons_succ]))
  | (refine wpReads_any ?_ (by rfl) ?_ ?_; rotate_left; (intro wz; go_simp; try with_reducible rfl); (try simp only [Act.put, List.setIfInBounds_toArray, List.set_cons_zero, List.set_cons_succ])))
 refine wpReads_nil ?_
 refine wpAnyT_one (i := 0) (by kernel_rfl) ?_
 simp only [pickOps, List.flatMap_cons, List.flatMap_nil, List.drop_zero, List.take_succ_cons, List.take_zero, List.append_nil]
 go_wp2_with fail
 refine (rports_any _ 1 1 (by omega)).mono ?_
 rintro e w1 ⟨v1, rfl, ho1, hb1⟩
 have HO1 := Lib.hid ho1
 clear ho1
 have hb1 : Below w.heap.size w w1 := below_ld (n := m + 1) hb1
 go_wp2
 refine ⟨fun _ hS => cell_later hb1 c0, ?_⟩
 refine wpAnyT_list (ks := [4, 5, 6, 7]) (fun _ _ hx h => hx.cell h) (by kernel_rfl) ?_
 simp only [pickOps, List.flatMap_cons, List.flatMap_nil, List.drop_succ_cons, List.drop_zero, List.take_succ_cons, List.take_zero, List.cons_append, List.nil_append, List.append_nil]
 go_wp2_with fail
 refine (rports_any _ u 1 (by omega)).mono ?_
 rintro e w2 ⟨v2, rfl, ho2, hb2⟩
 have HO2 := Lib.hid ho2
 clear ho2
 go_wp2
 go_ret3
 obtain ⟨q1, q2, q3⟩ := of_fin (Below.refl _ w) HO1.out hb1 (Below.refl _ _) HO2.out hb2
 exact ⟨v1, v2, rfl, q1, q2, q3⟩
theorem rof_4 {o : Col} {c : Nat} (w : World) (ao : Option Addr) (n cap : Nat) (l : List Int) (hg : goodP 4 l) (h : Ints w o c (.slice ao n cap) l) : Calls Tryz.prog 68 #[.int .u8 4, .slice ao n cap] w (OfOk w 4 l) := by
 have hp : pairP l := by simpa [goodP] using hg
 obtain ⟨hl, hx, hy, hxy⟩ := hp
 obtain ⟨x, y, rfl⟩ : ∃ x y, l = [x, y] := by
  match l, hl with
  | [x, y], _ => exact ⟨x, y, rfl⟩
 simp only [hd, hd1, List.getElem?_cons_zero, List.getElem?_cons_succ, Option.getD_some] at hx hy hxy
 obtain rfl := h.len
 obtain ⟨b, off, rfl, -, hcap, -, -, hc⟩ := h.at (by simp)
 have c0 := hc 0 (by simp)
 have c1 := hc 1 (by simp)
 simp at c0 c1
 have hcapi : (2 : Int) ≤ cap := by simp at hcap; omega
 clear hc
 have hgd := rgood_any w 4 (by simp [TagOk]) _ _ _ _ h
 rw [decide_eq_true hg] at hgd
 clear hg h
 go_enter Tryz.func68, Tryz.ntmps68
 go_wp2_with fail
 refine hgd.mono ?_
 rintro e w0 ⟨rfl, m, rfl⟩
 clear hgd
 obtain ⟨u, hu⟩ : ∃ u : Nat, x = u := ⟨x.toNat, by omega⟩
 obtain ⟨k, hk⟩ : ∃ k : Nat, y = k := ⟨y.toNat, by omega⟩
 subst hu hk
 have hn0 : (0 : Int) ≤ (u : Int) * k := Int.mul_nonneg (by omega) (by omega)
 have hw : wrap64 ((u : Int) * k) = (u : Int) * k := IntWalk.wrap64_in _ (by omega)
 have hw2 : IntKind.i64.wrap ((u : Int) * k) = (u : Int) * k := IntWalk.i64_in _ (by omega)
 go_wp2_with fail
 refine wp_region_rest (fun w' => w'.cell? ⟨b, off, none⟩ = some (.int .i64 u) ∧ w'.cell? ⟨b, off + 1, none⟩ = some (.int .i64 k)) [0, 1, 2, 3, 4, 5, 7, 8, 9, 10, 11, 12, 13] [6] 5 (by kernel_rfl) (by kernel_rfl) rfl ⟨c0, c1⟩ ?_
 intro Q' hQ'
 simp only [pickOps, List.flatMap_cons, List.flatMap_nil, List.drop_succ_cons, List.drop_zero, List.take_succ_cons, List.take_zero, List.cons_append, List.nil_append, List.append_nil]
 repeat (first
  | (refine wpReads_skip (by rfl) ?_; (try simp only [Act.put, List.setIfInBounds_toArray, List.set_cons_zero, List.set_cons_succ]))
  | (refine wpReads_cons ?_ (by rfl) (by rfl) ?_ ?_; rotate_left; (intro wz hz; (try dsimp only at hz); go_simp; try with_reducible rfl); (try simp only [Act.put, List.setIfInBounds_toArray, List.set_cons_zero, List.set_cons_succ]))
  | (refine wpReads_any ?_ (by rfl) ?_ ?_; rotate_left; (intro wz; go_simp; try with_reducible rfl); (try simp only [Act.put, List.setIfInBounds_toArray, List.set_cons_zero, List.set_cons_succ])))
 refine wpReads_nil ?_
 refine wpAnyT_one (i := 6) (by kernel_rfl) ?_
 simp only [pickOps, List.flatMap_cons, List.flatMap_nil, List.drop_succ_cons, List.drop_zero, List.take_succ_cons, List.take_zero, List.append_nil]
 go_wp2_with fail
 refine (rports_any _ u k (by omega)).mono ?_
 rintro e w1 ⟨v1, rfl, ho1, hb1⟩
 have HO1 := Lib.hid ho1
 clear ho1
 have hb1 : Below w.heap.size w w1 := below_ld (n := m + 1) hb1
 go_wp2
 refine ⟨fun _ hS => ⟨cell_later hb1 c0, cell_later hb1 c1⟩, ?_⟩
 refine wpAnyT_list (ks := [14, 15, 16, 17]) (fun _ _ hx h => ⟨hx.cell h.1, hx.cell h.2⟩) (by kernel_rfl) ?_
 simp only [pickOps, List.flatMap_cons, List.flatMap_nil, List.drop_succ_cons, List.drop_zero, List.take_succ_cons, List.take_zero, List.cons_append, List.nil_append, List.append_nil]
 go_wp2_with fail
 refine (rports_any _ 1 ((u : Int) * k) (by omega)).mono ?_
 rintro e w2 ⟨v2, rfl, ho2, hb2⟩
 have HO2 := Lib.hid ho2
 clear ho2
 go_wp2
 go_ret3
 obtain ⟨q1, q2, q3⟩ := of_fin (Below.refl _ w) HO1.out hb1 (Below.refl _ _) HO2.out hb2
 exact ⟨v1, v2, rfl, q1, q2, q3⟩
theorem rof_5 {o : Col} {c : Nat} (w : World) (ao : Option Addr) (n cap : Nat) (l : List Int) (hg : goodP 5 l) (h : Ints w o c (.slice ao n cap) l) : Calls Tryz.prog 68 #[.int .u8 5, .slice ao n cap] w (OfOk w 5 l) := by
 have hp : pairP l := by simpa [goodP] using hg
 obtain ⟨hl, hx, hy, hxy⟩ := hp
 obtain ⟨x, y, rfl⟩ : ∃ x y, l = [x, y] := by
  match l, hl with
  | [x, y], _ => exact ⟨x, y, rfl⟩
 simp only [hd, hd1, List.getElem?_cons_zero, List.getElem?_cons_succ, Option.getD_some] at hx hy hxy
 obtain rfl := h.len
 obtain ⟨b, off, rfl, -, hcap, -, -, hc⟩ := h.at (by simp)
 have c0 := hc 0 (by simp)
 have c1 := hc 1 (by simp)
 simp at c0 c1
 have hcapi : (2 : Int) ≤ cap := by simp at hcap; omega
 clear hc
 have hgd := rgood_any w 5 (by simp [TagOk]) _ _ _ _ h
 rw [decide_eq_true hg] at hgd
 clear hg h
 go_enter Tryz.func68, Tryz.ntmps68
 go_wp2_with fail
 refine hgd.mono ?_
 rintro e w0 ⟨rfl, m, rfl⟩
 clear hgd
 obtain ⟨u, hu⟩ : ∃ u : Nat, x = u := ⟨x.toNat, by omega⟩
 obtain ⟨k, hk⟩ : ∃ k : Nat, y = k := ⟨y.toNat, by omega⟩
 subst hu hk
 have hn0 : (0 : Int) ≤ (u : Int) * k := Int.mul_nonneg (by omega) (by omega)
 have hw : wrap64 ((u : Int) * k) = (u : Int) * k := IntWalk.wrap64_in _ (by omega)
 have hw2 : IntKind.i64.wrap ((u : Int) * k) = (u : Int) * k := IntWalk.i64_in _ (by omega)
 go_wp2_with fail
 refine wp_region_rest (fun w' => w'.cell? ⟨b, off, none⟩ = some (.int .i64 u) ∧ w'.cell? ⟨b, off + 1, none⟩ = some (.int .i64 k)) [0, 1, 2, 3, 4, 5, 6, 8, 9, 10, 11, 12, 13] [7] 5 (by kernel_rfl) (by kernel_rfl) rfl ⟨c0, c1⟩ ?_
 intro Q' hQ'
 simp only [pickOps, List.flatMap_cons, List.flatMap_nil, List.drop_succ_cons, List.drop_zero, List.take_succ_cons, List.take_zero, List.cons_append, List.nil_append, List.append_nil]
 repeat (first
  | (refine wpReads_skip (by rfl) ?_; (try simp only [Act.put, List.setIfInBounds_toArray, List.set_cons_zero, List.set_cons_succ]))
  | (refine wpReads_cons ?_ (by rfl) (by rfl) ?_ ?_; rotate_left; (intro wz hz; (try dsimp only at hz); go_simp; try with_reducible rfl); (try simp only [Act.put, List.setIfInBounds_toArray, List.set_cons_zero, List.set_cons_succ]))
  | (refine wpReads_any ?_ (by rfl) ?_ ?_; rotate_left; (intro wz; go_simp; try with_reducible rfl); (try simp only [Act.put, List.setIfInBounds_toArray, List.set_cons_zero, List.set_cons_succ])))
 refine wpReads_nil ?_
 refine wpAnyT_one (i := 7) (by kernel_rfl) ?_
 simp only [pickOps, List.flatMap_cons, List.flatMap_nil, List.drop_succ_cons, List.drop_zero, List.take_succ_cons, List.take_zero, List.append_nil]
 go_wp2_with fail
 refine (rports_any _ 1 ((u : Int) * k) (by omega)).mono ?_
 rintro e w1 ⟨v1, rfl, ho1, hb1⟩
 have HO1 := Lib.hid ho1
 clear ho1
 have hb1 : Below w.heap.size w w1 := below_ld (n := m + 1) hb1
 go_wp2
 refine ⟨fun _ hS => ⟨cell_later hb1 c0, cell_later hb1 c1⟩, ?_⟩
 refine wpAnyT_list (ks := [14, 15, 16, 17]) (fun _ _ hx h => ⟨hx.cell h.1, hx.cell h.2⟩) (by kernel_rfl) ?_
 simp only [pickOps, List.flatMap_cons, List.flatMap_nil, List.drop_succ_cons, List.drop_zero, List.take_succ_cons, List.take_zero, List.cons_append, List.nil_append, List.append_nil]
 go_wp2_with fail
 refine (rports_any _ u k (by omega)).mono ?_
 rintro e w2 ⟨v2, rfl, ho2, hb2⟩
 have HO2 := Lib.hid ho2
 clear ho2
 go_wp2
 go_ret3
 obtain ⟨q1, q2, q3⟩ := of_fin (Below.refl _ w) HO1.out hb1 (Below.refl _ _) HO2.out hb2
 exact ⟨v1, v2, rfl, q1, q2, q3⟩
theorem rof_ok {o : Col} {c : Nat} (w : World) (t : Int) (ao : Option Addr) (n cap : Nat) (ps : List Int) (hg : goodP t ps) (h : Ints w o c (.slice ao n cap) ps) : Calls Tryz.prog 68 #[.int .u8 t, .slice ao n cap] w (OfOk w t ps) := by
 rcases goodP_cases hg with rfl | rfl | rfl | rfl | rfl | rfl | rfl | rfl | rfl | rfl | rfl
 ·
  exact rof_1 w ao n cap ps hg h
 ·
  exact rof_2 w ao n cap ps hg h
 ·
  exact rof_3 w ao n cap ps hg h
 ·
  exact rof_4 w ao n cap ps hg h
 ·
  exact rof_5 w ao n cap ps hg h
 ·
  exact rof_6 w ao n cap ps hg h
 ·
  exact rof_7 w ao n cap ps hg h
 ·
  exact rof_8 w ao n cap ps hg h
 ·
  exact rof_9 w ao n cap ps hg h
 ·
  exact rof_10 w ao n cap ps hg h
 ·
  exact rof_11 w ao n cap ps hg h
theorem rof_no {o : Col} {c : Nat} (w : World) (t : Int) (ao : Option Addr) (n cap : Nat) (ps : List Int) (hg : ¬ goodP t ps) (h : Ints w o c (.slice ao n cap) ps) : Calls Tryz.prog 68 #[.int .u8 t, .slice ao n cap] w (OfNo w (errP t)) := by
 unfold errP
 by_cases ht : 1 ≤ t ∧ t ≤ 11
 ·
  rw [if_pos ht]; exact rof_bad w t (by unfold TagOk; omega) ao n cap ps hg h
 ·
  rw [if_neg ht]; exact rof_tag w t _ (by omega)
end Go.Proofs.YtaholpfikcdhbaaGreat

/- The reference's rates, end, named. -/
namespace Go.Proofs.YtaholpfikcdhbaaGreat
open Go.RowKit
set_option maxRecDepth 100000 in
set_option maxHeartbeats 2000000 in
theorem rates_any' (w : World) (v : Value) (g : GGraph) (t : Nat) (h : HasGraph w v g) (ht : t < g.actors.length) (hg : goodP g.actors[t].tag g.actors[t].params) : Calls Tryz.prog 105 #[v, .int .i64 (t : Int)] w (Tells (.tuple #[.int .i64 (ratesI g t).length, .int .i64 (ratesO g t).length]) w) := by
 obtain ⟨va, ve, vi, vo, rfl, ra, re, ri, ro⟩ := h.shape
 obtain ⟨aa, ac, rfl⟩ := ra.slice
 obtain ⟨ae, ec, rfl⟩ := re.slice
 obtain ⟨ai, ic, rfl⟩ := ri.slice
 obtain ⟨ao, oc, rfl⟩ := ro.slice
 have HG := Lib.hid h
 have HRA := Lib.hid ra
 have HRE := Lib.hid re
 have HRI := Lib.hid ri
 have HRO := Lib.hid ro
 have hb := below_alloc w (.cells #[.string g.name, .slice aa g.actors.length ac, .slice ae g.edges.length ec, .slice ai g.ins.length ic, .slice ao g.outs.length oc] 26)
 have HB := Lib.hid hb
 have hX := heap_alloc_new w (.cells #[.string g.name, .slice aa g.actors.length ac, .slice ae g.edges.length ec, .slice ai g.ins.length ic, .slice ao g.outs.length oc] 26)
 have HXB := Lib.hid hX
 have x0 := cells_row _ _ hX 0 _ rfl
 have x1 := cells_row _ _ hX 1 _ rfl
 have x2 := cells_row _ _ hX 2 _ rfl
 have x3 := cells_row _ _ hX 3 _ rfl
 have x4 := cells_row _ _ hX 4 _ rfl
 clear h ra re ri ro hb hX
 have hI : ratesI g t = insP g.actors[t].tag g.actors[t].params := by unfold ratesI; rw [List.getElem?_eq_getElem ht]
 have hO : ratesO g t = outsP g.actors[t].tag g.actors[t].params := by unfold ratesO; rw [List.getElem?_eq_getElem ht]
 rw [hI, hO]
 obtain ⟨b0, off, rfl, hcap, hb0, hrec⟩ := HRA.out.at (by omega)
 obtain ⟨cs, hcs, hPR, hcl⟩ := hrec t ht
 obtain ⟨xs, rfl, hst⟩ := hPR
 have c1 := cell_later HB.out (hcl 1 (by omega))
 have c2 := cell_later HB.out (hcl 2 (by omega))
 simp at c1 c2
 obtain ⟨sa, sc, hxs⟩ := Ints.slice hst
 subst hxs
 have hst2 := hst.below HB.out
 have HST := Lib.hid hst2
 have HGD := Lib.hid hg
 obtain ⟨ct, hct⟩ : ∃ x, g.actors[t].tag = x := ⟨_, rfl⟩
 obtain ⟨ps, hps⟩ : ∃ x, g.actors[t].params = x := ⟨_, rfl⟩
 rw [hct, hps] at HGD ⊢
 rw [hps] at HST c2
 rw [hct] at c1
 have hcapi : (g.actors.length : Int) ≤ ac := by omega
 have hti : (t : Int) < g.actors.length := by omega
 clear hst hst2 hrec hcs hcl hb0 hcap hg hI hO hct hps
 go_enter Tryz.func105, Tryz.ntmps105
 go_wp2_with fail
 obtain ⟨wb, hwb⟩ : ∃ x, w.alloc (.cells #[.string g.name, .slice (some ⟨b0, off, none⟩) g.actors.length ac, .slice ae g.edges.length ec, .slice ai g.ins.length ic, .slice ao g.outs.length oc] 26) = x := ⟨_, rfl⟩
 rw [hwb] at HB HXB x0 x1 x2 x3 x4 ⊢
 rw [hwb] at HST c1 c2
 clear hwb
 refine wp_region_mid (fun w' => w'.cell? ⟨w.heap.size, 1, none⟩ = some (.slice (some ⟨b0, off, none⟩) g.actors.length ac) ∧ w'.cell? ⟨b0, off + t * 3 + 1, none⟩ = some (.int .u8 ct) ∧ w'.cell? ⟨b0, off + t * 3 + 2, none⟩ = some (.slice sa ps.length sc)) [0, 1, 2, 3, 4, 5, 6, 7, 8, 9, 10, 11] 12 [13, 14, 15, 16] [12, 17, 18] 3 (by kernel_rfl) (by kernel_rfl) rfl ⟨x1, c1, c2⟩ ?_
 intro Q' hQ'
 simp only [pickOps, List.flatMap_cons, List.flatMap_nil, List.drop_succ_cons, List.drop_zero, List.take_succ_cons, List.take_zero, List.cons_append, List.nil_append, List.append_nil]
 repeat (first
  | (refine wpReads_skip (by rfl) ?_; (try simp only [Act.put, List.setIfInBounds_toArray, List.set_cons_zero, List.set_cons_succ]))
  | (refine wpReads_cons ?_ (by rfl) (by rfl) ?_ ?_; rotate_left; (intro wz hz; (try dsimp only at hz); go_simp; try with_reducible rfl); (try simp only [Act.put, List.setIfInBounds_toArray, List.set_cons_zero, List.set_cons_succ]))
  | (refine wpReads_any ?_ (by rfl) ?_ ?_; rotate_left; (intro wz; go_simp; try with_reducible rfl); (try simp only [Act.put, List.setIfInBounds_toArray, List.set_cons_zero, List.set_cons_succ])))
 refine wpReads_nil ?_
 go_wp2_with fail
 refine (rof_ok _ ct sa ps.length sc ps HGD.out (HST.out.drewN 1)).mono ?_
 rintro e w1 ⟨v1, v2, rfl, o1, o2, hb1⟩
 obtain ⟨s1, k1, rfl⟩ := owns_slice o1
 obtain ⟨s2, k2, rfl⟩ := owns_slice o2
 have hs := And.intro (cell_later hb1 x1) (And.intro (cell_later hb1 c1) (cell_later hb1 c2))
 have HS := Lib.hid hs
 have HB1 := Lib.hid ((below_dr (n := 1) HB.out).trans (hb1.mono HB.out.size))
 clear o1 o2 hb1 hs x0 x1 x2 x3 x4 c1 c2
 go_wp2
 refine ⟨HS.out, ?_⟩
 repeat (first
  | (refine wpReads_skip (by rfl) ?_; (try simp only [Act.put, List.setIfInBounds_toArray, List.set_cons_zero, List.set_cons_succ]))
  | (refine wpReads_cons ?_ (by rfl) (by rfl) ?_ ?_; rotate_left; (intro wz hz; (try dsimp only at hz); go_simp; try with_reducible rfl); (try simp only [Act.put, List.setIfInBounds_toArray, List.set_cons_zero, List.set_cons_succ]))
  | (refine wpReads_any ?_ (by rfl) ?_ ?_; rotate_left; (intro wz; go_simp; try with_reducible rfl); (try simp only [Act.put, List.setIfInBounds_toArray, List.set_cons_zero, List.set_cons_succ])))
 refine wpReads_nil ?_
 refine wpAnyT_one (i := 17) (by kernel_rfl) ?_
 simp only [pickOps, List.flatMap_cons, List.flatMap_nil, List.drop_succ_cons, List.drop_zero, List.take_succ_cons, List.take_zero, List.append_nil]
 go_wp2
 refine ⟨by intros; exact HS.out, ?_⟩
 refine wpAnyT_one (i := 18) (by kernel_rfl) ?_
 simp only [pickOps, List.flatMap_cons, List.flatMap_nil, List.drop_succ_cons, List.drop_zero, List.take_succ_cons, List.take_zero, List.append_nil]
 go_wp2
 refine ⟨by intros; exact HS.out, ?_⟩
 refine wpAnyT_list (ks := [19]) (fun _ _ hx h => ⟨hx.cell h.1, hx.cell h.2.1, hx.cell h.2.2⟩) (by kernel_rfl) ?_
 simp only [pickOps, List.flatMap_cons, List.flatMap_nil, List.drop_succ_cons, List.drop_zero, List.take_succ_cons, List.take_zero, List.append_nil]
 go_wp2
 go_ret2
 exact ⟨rfl, HB1.out⟩
/- $1: true or false, $2: the rates -/
set_option maxRecDepth 100000 in
set_option maxHeartbeats 2000000 in
theorem end_true (w : World) (v : Value) (g : GGraph) (a p : Int) (tk : Bool) (h : HasGraph w v g) (hg : ∀ x ∈ g.actors, goodP x.tag x.params) : Calls Tryz.prog 102 #[v, .int .i64 a, .int .i64 p, .bool true, .bool tk] w (Tells (.int .i64 (endR g (ratesO g) a p tk)) w) := by
 obtain ⟨va, ve, vi, vo, rfl, ra, re, ri, ro⟩ := h.shape
 obtain ⟨aa, ac, rfl⟩ := ra.slice
 obtain ⟨ae, ec, rfl⟩ := re.slice
 obtain ⟨ai, ic, rfl⟩ := ri.slice
 obtain ⟨ao, oc, rfl⟩ := ro.slice
 have HG := Lib.hid h
 have HRA := Lib.hid ra
 have HRE := Lib.hid re
 have HRI := Lib.hid ri
 have HRO := Lib.hid ro
 have hb := below_alloc w (.cells #[.string g.name, .slice aa g.actors.length ac, .slice ae g.edges.length ec, .slice ai g.ins.length ic, .slice ao g.outs.length oc] 26)
 have HB := Lib.hid hb
 have hX := heap_alloc_new w (.cells #[.string g.name, .slice aa g.actors.length ac, .slice ae g.edges.length ec, .slice ai g.ins.length ic, .slice ao g.outs.length oc] 26)
 have HXB := Lib.hid hX
 have x0 := cells_row _ _ hX 0 _ rfl
 have x1 := cells_row _ _ hX 1 _ rfl
 have x2 := cells_row _ _ hX 2 _ rfl
 have x3 := cells_row _ _ hX 3 _ rfl
 have x4 := cells_row _ _ hX 4 _ rfl
 clear h ra re ri ro hb hX
 unfold endR
 by_cases h0 : a < 0
 ·
  rw [if_pos (.inl h0)]
  go_enter Tryz.func102, Tryz.ntmps102
  go_wp2
  go_ret
  exact ⟨rfl, HB.out⟩
 by_cases h1 : (g.actors.length : Int) ≤ a
 ·
  rw [if_pos (.inr h1)]
  go_enter Tryz.func102, Tryz.ntmps102
  go_wp2
  go_ret
  exact ⟨rfl, HB.out⟩
 rw [if_neg (by omega)]
 obtain ⟨t, rfl⟩ : ∃ t : Nat, a = t := ⟨a.toNat, by omega⟩
 have ht : t < g.actors.length := by omega
 rw [Int.toNat_natCast]
 have hR := rates_any' _ _ g t (HG.out.below HB.out) ht (hg _ (List.getElem_mem ht))
 have HR := Lib.hid hR
 obtain ⟨n, hn⟩ : ∃ n, (ratesO g t).length = n := ⟨_, rfl⟩
 rw [hn]
 have HN := Lib.hid hn
 clear hR hn hg ht
 by_cases h2 : p < 0
 ·
  rw [if_pos (.inl h2)]
  go_enter Tryz.func102, Tryz.ntmps102
  go_wp2_with fail
  refine HR.out.mono ?_
  rintro e w1 ⟨rfl, hb1⟩
  rw [HN.out]
  have HB1 := Lib.hid (HB.out.trans (hb1.mono HB.out.size))
  clear hb1
  go_wp2
  go_ret
  exact ⟨rfl, HB1.out⟩
 by_cases h3 : (n : Int) ≤ p
 ·
  rw [if_pos (.inr h3)]
  go_enter Tryz.func102, Tryz.ntmps102
  go_wp2_with fail
  refine HR.out.mono ?_
  rintro e w1 ⟨rfl, hb1⟩
  rw [HN.out]
  have HB1 := Lib.hid (HB.out.trans (hb1.mono HB.out.size))
  clear hb1
  go_wp2
  go_ret
  exact ⟨rfl, HB1.out⟩
 rw [if_neg (by omega)]
 cases tk with
 | true =>
  go_enter Tryz.func102, Tryz.ntmps102
  go_wp2_with fail
  refine HR.out.mono ?_
  rintro e w1 ⟨rfl, hb1⟩
  rw [HN.out]
  have HB1 := Lib.hid (HB.out.trans (hb1.mono HB.out.size))
  clear hb1
  go_wp2
  go_ret
  exact ⟨rfl, HB1.out⟩
 | false =>
  go_enter Tryz.func102, Tryz.ntmps102
  go_wp2_with fail
  refine HR.out.mono ?_
  rintro e w1 ⟨rfl, hb1⟩
  rw [HN.out]
  have HB1 := Lib.hid (HB.out.trans (hb1.mono HB.out.size))
  clear hb1
  go_wp2
  go_ret
  exact ⟨by simp, HB1.out⟩
set_option maxRecDepth 100000 in
set_option maxHeartbeats 2000000 in
theorem end_false (w : World) (v : Value) (g : GGraph) (a p : Int) (tk : Bool) (h : HasGraph w v g) (hg : ∀ x ∈ g.actors, goodP x.tag x.params) : Calls Tryz.prog 102 #[v, .int .i64 a, .int .i64 p, .bool false, .bool tk] w (Tells (.int .i64 (endR g (ratesI g) a p tk)) w) := by
 obtain ⟨va, ve, vi, vo, rfl, ra, re, ri, ro⟩ := h.shape
 obtain ⟨aa, ac, rfl⟩ := ra.slice
 obtain ⟨ae, ec, rfl⟩ := re.slice
 obtain ⟨ai, ic, rfl⟩ := ri.slice
 obtain ⟨ao, oc, rfl⟩ := ro.slice
 have HG := Lib.hid h
 have HRA := Lib.hid ra
 have HRE := Lib.hid re
 have HRI := Lib.hid ri
 have HRO := Lib.hid ro
 have hb := below_alloc w (.cells #[.string g.name, .slice aa g.actors.length ac, .slice ae g.edges.length ec, .slice ai g.ins.length ic, .slice ao g.outs.length oc] 26)
 have HB := Lib.hid hb
 have hX := heap_alloc_new w (.cells #[.string g.name, .slice aa g.actors.length ac, .slice ae g.edges.length ec, .slice ai g.ins.length ic, .slice ao g.outs.length oc] 26)
 have HXB := Lib.hid hX
 have x0 := cells_row _ _ hX 0 _ rfl
 have x1 := cells_row _ _ hX 1 _ rfl
 have x2 := cells_row _ _ hX 2 _ rfl
 have x3 := cells_row _ _ hX 3 _ rfl
 have x4 := cells_row _ _ hX 4 _ rfl
 clear h ra re ri ro hb hX
 unfold endR
 by_cases h0 : a < 0
 ·
  rw [if_pos (.inl h0)]
  go_enter Tryz.func102, Tryz.ntmps102
  go_wp2
  go_ret
  exact ⟨rfl, HB.out⟩
 by_cases h1 : (g.actors.length : Int) ≤ a
 ·
  rw [if_pos (.inr h1)]
  go_enter Tryz.func102, Tryz.ntmps102
  go_wp2
  go_ret
  exact ⟨rfl, HB.out⟩
 rw [if_neg (by omega)]
 obtain ⟨t, rfl⟩ : ∃ t : Nat, a = t := ⟨a.toNat, by omega⟩
 have ht : t < g.actors.length := by omega
 rw [Int.toNat_natCast]
 have hR := rates_any' _ _ g t (HG.out.below HB.out) ht (hg _ (List.getElem_mem ht))
 have HR := Lib.hid hR
 obtain ⟨n, hn⟩ : ∃ n, (ratesI g t).length = n := ⟨_, rfl⟩
 rw [hn]
 have HN := Lib.hid hn
 clear hR hn hg ht
 by_cases h2 : p < 0
 ·
  rw [if_pos (.inl h2)]
  go_enter Tryz.func102, Tryz.ntmps102
  go_wp2_with fail
  refine HR.out.mono ?_
  rintro e w1 ⟨rfl, hb1⟩
  rw [HN.out]
  have HB1 := Lib.hid (HB.out.trans (hb1.mono HB.out.size))
  clear hb1
  go_wp2
  go_ret
  exact ⟨rfl, HB1.out⟩
 by_cases h3 : (n : Int) ≤ p
 ·
  rw [if_pos (.inr h3)]
  go_enter Tryz.func102, Tryz.ntmps102
  go_wp2_with fail
  refine HR.out.mono ?_
  rintro e w1 ⟨rfl, hb1⟩
  rw [HN.out]
  have HB1 := Lib.hid (HB.out.trans (hb1.mono HB.out.size))
  clear hb1
  go_wp2
  go_ret
  exact ⟨rfl, HB1.out⟩
 rw [if_neg (by omega)]
 cases tk with
 | true =>
  go_enter Tryz.func102, Tryz.ntmps102
  go_wp2_with fail
  refine HR.out.mono ?_
  rintro e w1 ⟨rfl, hb1⟩
  rw [HN.out]
  have HB1 := Lib.hid (HB.out.trans (hb1.mono HB.out.size))
  clear hb1
  go_wp2
  go_ret
  exact ⟨rfl, HB1.out⟩
 | false =>
  go_enter Tryz.func102, Tryz.ntmps102
  go_wp2_with fail
  refine HR.out.mono ?_
  rintro e w1 ⟨rfl, hb1⟩
  rw [HN.out]
  have HB1 := Lib.hid (HB.out.trans (hb1.mono HB.out.size))
  clear hb1
  go_wp2
  go_ret
  exact ⟨by simp, HB1.out⟩
/- one of the three loops: $1 slot, $2 how many, $3 list, $4 Recs, $5 size (Nat), $6 cap, $7 type, $8 what follows (macro) -/
end Go.Proofs.YtaholpfikcdhbaaGreat

/- The reference's question: has an actor, an input or an output that name? -/
namespace Go.Proofs.YtaholpfikcdhbaaGreat
open Go.RowKit
theorem barr_yes {a b : ByteArray} (h : a = b) : (a.toList == b.toList) = true := by
 subst h
 simp
theorem barr_no {a b : ByteArray} (h : ¬ a = b) : (a.toList == b.toList) = false := by
 rw [beq_eq_false_iff_ne]
 intro e
 rw [ByteArray.toList_eq, ByteArray.toList_eq] at e
 exact h (ByteArray.ext (Array.toList_inj.1 e))
set_option maxRecDepth 100000 in
set_option maxHeartbeats 2000000 in
theorem named_any (w : World) (v : Value) (g : GGraph) (na ni no : Nat) (s : ByteArray) (h : HasGraph w v g) (h1 : na ≤ g.actors.length ∧ na ≤ 1000000) (h2 : ni ≤ g.ins.length ∧ ni ≤ 1000000) (h3 : no ≤ g.outs.length ∧ no ≤ 1000000) : Calls Tryz.prog 101 #[v, .int .i64 (na : Int), .int .i64 (ni : Int), .int .i64 (no : Int), .string s] w (Tells (.bool (namedR g na ni no s)) w) := by
 obtain ⟨va, ve, vi, vo, rfl, ra, re, ri, ro⟩ := h.shape
 obtain ⟨aa, ac, rfl⟩ := ra.slice
 obtain ⟨ae, ec, rfl⟩ := re.slice
 obtain ⟨ai, ic, rfl⟩ := ri.slice
 obtain ⟨ao, oc, rfl⟩ := ro.slice
 have HG := Lib.hid h
 have HRA := Lib.hid ra
 have HRE := Lib.hid re
 have HRI := Lib.hid ri
 have HRO := Lib.hid ro
 have hb := below_alloc w (.cells #[.string g.name, .slice aa g.actors.length ac, .slice ae g.edges.length ec, .slice ai g.ins.length ic, .slice ao g.outs.length oc] 26)
 have HB := Lib.hid hb
 have hX := heap_alloc_new w (.cells #[.string g.name, .slice aa g.actors.length ac, .slice ae g.edges.length ec, .slice ai g.ins.length ic, .slice ao g.outs.length oc] 26)
 have HXB := Lib.hid hX
 have x0 := cells_row _ _ hX 0 _ rfl
 have x1 := cells_row _ _ hX 1 _ rfl
 have x2 := cells_row _ _ hX 2 _ rfl
 have x3 := cells_row _ _ hX 3 _ rfl
 have x4 := cells_row _ _ hX 4 _ rfl
 clear h ra re ri ro hb hX
 obtain ⟨h1, k1⟩ := h1
 obtain ⟨h2, k2⟩ := h2
 obtain ⟨h3, k3⟩ := h3
 obtain ⟨N, hN⟩ : ∃ N, namedR g na ni no s = N := ⟨_, rfl⟩
 rw [hN]
 have HN := Lib.hid hN
 clear hN
 go_enter Tryz.func101, Tryz.ntmps101
 go_wp2_with fail
 obtain ⟨wb, hwb⟩ : ∃ x, w.alloc (.cells #[.string g.name, .slice aa g.actors.length ac, .slice ae g.edges.length ec, .slice ai g.ins.length ic, .slice ao g.outs.length oc] 26) = x := ⟨_, rfl⟩
 rw [hwb] at HB HXB x0 x1 x2 x3 x4 ⊢
 clear hwb
 go_loopw [11] (fun i wl => ∃ j : Nat, j ≤ na ∧ i = .int .i64 j ∧ wl = wb ∧ ((g.actors).take j).any (fun x => decide (x.name = s)) = false) (fun i _ => na - (intOf i).toNat)
 case atStart => exact ⟨0, Nat.zero_le _, rfl, rfl, by simp⟩
 case round =>
  obtain ⟨j, hj, rfl, rfl, hno⟩ := hrel
  have HNO := Lib.hid hno
  clear hno
  by_cases hlt : j < na
  ·
   have hlti : (j : Int) < na := by omega
   have hjl : j < (g.actors).length := by omega
   obtain ⟨b0, off, rfl, hcap, hb0, hrec⟩ := HRA.out.at (by omega)
   obtain ⟨cs, hcs, hPR, hcl⟩ := hrec j hjl
   obtain ⟨xs, rfl, -⟩ := hPR
   have c0 := cell_later HB.out (hcl 0 (by omega))
   simp at c0
   have hcapi : ((g.actors).length : Int) ≤ ac := by omega
   have hjli : (j : Int) < (g.actors).length := by omega
   clear hrec hcl hcs hb0 hcap
   by_cases e1 : (g.actors)[j].name = s
   ·
    have e1b := barr_yes e1
    have hyes := any_take_of (f := fun x : GActor => decide (x.name = s)) hjl hlt (by simp [e1])
    have HY := Lib.hid hyes
    clear hyes e1
    go_wp2
    go_ret
    exact ⟨by rw [← HN.out, namedR, HY.out]; simp, HB.out⟩
   ·
    have e1b := barr_no e1
    have hnx := any_take_next (f := fun x : GActor => decide (x.name = s)) hjl HNO.out (by simp [e1])
    have HX := Lib.hid hnx
    clear hnx e1
    go_wp2
    go_roundw
    case rel => exact ⟨j + 1, hlt, by go_num, by first | rfl | trivial, HX.out⟩
    case measure => simp [intOf]; omega
  ·
   obtain rfl : j = na := by omega
   have hlti : ¬ ((j : Int) < j) := by omega
   have HN1 := Lib.hid HNO.out
   clear HNO hj hlt
   go_wp2_with fail
   go_loopw [12] (fun i wl => ∃ j : Nat, j ≤ ni ∧ i = .int .i64 j ∧ wl = wr ∧ ((g.ins).take j).any (fun x => decide (x.name = s)) = false) (fun i _ => ni - (intOf i).toNat)
   case atStart => exact ⟨0, Nat.zero_le _, rfl, rfl, by simp⟩
   case round =>
    obtain ⟨j, hj, rfl, rfl, hno⟩ := hrel
    have HNO := Lib.hid hno
    clear hno
    by_cases hlt : j < ni
    ·
     have hlti : (j : Int) < ni := by omega
     have hjl : j < (g.ins).length := by omega
     obtain ⟨b0, off, rfl, hcap, hb0, hrec⟩ := HRI.out.at (by omega)
     obtain ⟨cs, hcs, hPR, hcl⟩ := hrec j hjl
     obtain rfl := hPR
     have c0 := cell_later HB.out (hcl 0 (by omega))
     simp at c0
     have hcapi : ((g.ins).length : Int) ≤ ic := by omega
     have hjli : (j : Int) < (g.ins).length := by omega
     clear hrec hcl hcs hb0 hcap
     by_cases e1 : (g.ins)[j].name = s
     ·
      have e1b := barr_yes e1
      have hyes := any_take_of (f := fun x : GPort => decide (x.name = s)) hjl hlt (by simp [e1])
      have HY := Lib.hid hyes
      clear hyes e1
      go_wp2
      go_ret
      exact ⟨by rw [← HN.out, namedR, HY.out]; simp, HB.out⟩
     ·
      have e1b := barr_no e1
      have hnx := any_take_next (f := fun x : GPort => decide (x.name = s)) hjl HNO.out (by simp [e1])
      have HX := Lib.hid hnx
      clear hnx e1
      go_wp2
      go_roundw
      case rel => exact ⟨j + 1, hlt, by go_num, by first | rfl | trivial, HX.out⟩
      case measure => simp [intOf]; omega
    ·
     obtain rfl : j = ni := by omega
     have hlti : ¬ ((j : Int) < j) := by omega
     have HN2 := Lib.hid HNO.out
     clear HNO hj hlt
     go_wp2_with fail
     go_loopw [13] (fun i wl => ∃ j : Nat, j ≤ no ∧ i = .int .i64 j ∧ wl = wr ∧ ((g.outs).take j).any (fun x => decide (x.name = s)) = false) (fun i _ => no - (intOf i).toNat)
     case atStart => exact ⟨0, Nat.zero_le _, rfl, rfl, by simp⟩
     case round =>
      obtain ⟨j, hj, rfl, rfl, hno⟩ := hrel
      have HNO := Lib.hid hno
      clear hno
      by_cases hlt : j < no
      ·
       have hlti : (j : Int) < no := by omega
       have hjl : j < (g.outs).length := by omega
       obtain ⟨b0, off, rfl, hcap, hb0, hrec⟩ := HRO.out.at (by omega)
       obtain ⟨cs, hcs, hPR, hcl⟩ := hrec j hjl
       obtain rfl := hPR
       have c0 := cell_later HB.out (hcl 0 (by omega))
       simp at c0
       have hcapi : ((g.outs).length : Int) ≤ oc := by omega
       have hjli : (j : Int) < (g.outs).length := by omega
       clear hrec hcl hcs hb0 hcap
       by_cases e1 : (g.outs)[j].name = s
       ·
        have e1b := barr_yes e1
        have hyes := any_take_of (f := fun x : GPort => decide (x.name = s)) hjl hlt (by simp [e1])
        have HY := Lib.hid hyes
        clear hyes e1
        go_wp2
        go_ret
        exact ⟨by rw [← HN.out, namedR, HY.out]; simp, HB.out⟩
       ·
        have e1b := barr_no e1
        have hnx := any_take_next (f := fun x : GPort => decide (x.name = s)) hjl HNO.out (by simp [e1])
        have HX := Lib.hid hnx
        clear hnx e1
        go_wp2
        go_roundw
        case rel => exact ⟨j + 1, hlt, by go_num, by first | rfl | trivial, HX.out⟩
        case measure => simp [intOf]; omega
      ·
       obtain rfl : j = no := by omega
       have hlti : ¬ ((j : Int) < j) := by omega
       have HN3 := Lib.hid HNO.out
       go_wp2
       go_ret
       exact ⟨by rw [← HN.out, namedR, HN1.out, HN2.out, HN3.out]; rfl, HB.out⟩
end Go.Proofs.YtaholpfikcdhbaaGreat

/- What is wrong with an actor, an edge, a port, as the reference tells it. -/
namespace Go.Proofs.YtaholpfikcdhbaaGreat
open Go.RowKit
/- the questions of one end of an edge: $1 $2 the fields' places, $3 $4 the fields, $5 the taken, $6 end's law, $7 the fact of taken, $8 the world, $9 below -/
def actorG (g : GGraph) : Prop := ∀ x ∈ g.actors, goodP x.tag x.params
set_option maxRecDepth 100000 in
set_option maxHeartbeats 2000000 in
theorem xactor_any (w : World) (v : Value) (g : GGraph) (i : Nat) (h : HasGraph w v g) (hs : GSized g) (hi : i < g.actors.length) (hi2 : i ≤ 1000000) : Calls Tryz.prog 86 #[v, .int .i64 (i : Int)] w (Tells (.int .i64 (actorR g i g.actors[i])) w) := by
 obtain ⟨va, ve, vi, vo, rfl, ra, re, ri, ro⟩ := h.shape
 obtain ⟨aa, ac, rfl⟩ := ra.slice
 obtain ⟨ae, ec, rfl⟩ := re.slice
 obtain ⟨ai, ic, rfl⟩ := ri.slice
 obtain ⟨ao, oc, rfl⟩ := ro.slice
 have HG := Lib.hid h
 have HRA := Lib.hid ra
 have HRE := Lib.hid re
 have HRI := Lib.hid ri
 have HRO := Lib.hid ro
 have hb := below_alloc w (.cells #[.string g.name, .slice aa g.actors.length ac, .slice ae g.edges.length ec, .slice ai g.ins.length ic, .slice ao g.outs.length oc] 26)
 have HB := Lib.hid hb
 have hX := heap_alloc_new w (.cells #[.string g.name, .slice aa g.actors.length ac, .slice ae g.edges.length ec, .slice ai g.ins.length ic, .slice ao g.outs.length oc] 26)
 have HXB := Lib.hid hX
 have x0 := cells_row _ _ hX 0 _ rfl
 have x1 := cells_row _ _ hX 1 _ rfl
 have x2 := cells_row _ _ hX 2 _ rfl
 have x3 := cells_row _ _ hX 3 _ rfl
 have x4 := cells_row _ _ hX 4 _ rfl
 clear h ra re ri ro hb hX
 obtain ⟨b0, off, rfl, hcap, hb0, hrec⟩ := HRA.out.at (by omega)
 obtain ⟨cs, hcs, hPR, hcl⟩ := hrec i hi
 obtain ⟨xs, rfl, hst⟩ := hPR
 have c0 := cell_later HB.out (hcl 0 (by omega))
 have c1 := cell_later HB.out (hcl 1 (by omega))
 have c2 := cell_later HB.out (hcl 2 (by omega))
 simp at c0 c1 c2
 obtain ⟨sa, sc, hxs⟩ := Ints.slice hst
 subst hxs
 have HST := Lib.hid hst
 obtain ⟨a, hae⟩ : ∃ a, g.actors[i] = a := ⟨_, rfl⟩
 have hnm := (hs.2.1 _ (List.getElem_mem hi)).1
 rw [hae] at c0 c1 c2 HST hnm ⊢
 have HNM := Lib.hid hnm
 have hcapi : (g.actors.length : Int) ≤ ac := by omega
 have hii : (i : Int) < g.actors.length := by omega
 have HII := Lib.hid hi
 obtain ⟨N, hN⟩ : ∃ N, actorR g i a = N := ⟨_, rfl⟩
 rw [hN]
 unfold actorR nameR at hN
 have HN := Lib.hid hN
 clear hN
 obtain ⟨E, hE⟩ : ∃ E, nameP a.name = E := ⟨_, rfl⟩
 obtain ⟨T, hT⟩ : ∃ T, namedR g i 0 0 a.name = T := ⟨_, rfl⟩
 have HE := Lib.hid hE
 have HT := Lib.hid hT
 clear hrec hcl hcs hst hb0 hcap hnm hE hT hae
 have hsz : (w.alloc (.cells #[.string g.name, .slice (some ⟨b0, off, none⟩) g.actors.length ac, .slice ae g.edges.length ec, .slice ai g.ins.length ic, .slice ao g.outs.length oc] 26)).heap.size = w.heap.size + 1 := by simp
 have hby := below_alloc (w.alloc (.cells #[.string g.name, .slice (some ⟨b0, off, none⟩) g.actors.length ac, .slice ae g.edges.length ec, .slice ai g.ins.length ic, .slice ao g.outs.length oc] 26)) (.cells #[.string a.name, .int .u8 a.tag, .slice sa a.params.length sc] 96)
 have hY := heap_alloc_new (w.alloc (.cells #[.string g.name, .slice (some ⟨b0, off, none⟩) g.actors.length ac, .slice ae g.edges.length ec, .slice ai g.ins.length ic, .slice ao g.outs.length oc] 26)) (.cells #[.string a.name, .int .u8 a.tag, .slice sa a.params.length sc] 96)
 rw [hsz] at hY
 replace x0 := cell_later hby x0
 replace x1 := cell_later hby x1
 replace x2 := cell_later hby x2
 replace x3 := cell_later hby x3
 replace x4 := cell_later hby x4
 have HBY := Lib.hid (HB.out.trans (hby.mono HB.out.size))
 clear hby hsz
 have y0 := cells_row _ _ hY 0 _ rfl
 have y1 := cells_row _ _ hY 1 _ rfl
 have y2 := cells_row _ _ hY 2 _ rfl
 clear hY
 go_enter Tryz.func86, Tryz.ntmps86
 go_wp2_with fail
 obtain ⟨wy, hwy⟩ : ∃ x, (w.alloc (.cells #[.string g.name, .slice (some ⟨b0, off, none⟩) g.actors.length ac, .slice ae g.edges.length ec, .slice ai g.ins.length ic, .slice ao g.outs.length oc] 26)).alloc (.cells #[.string a.name, .int .u8 a.tag, .slice sa a.params.length sc] 96) = x := ⟨_, rfl⟩
 rw [hwy] at HBY x0 x1 x2 x3 x4 ⊢
 rw [hwy] at y0 y1 y2
 clear hwy c0 c1 c2
 refine (xname_any _ _ HNM.out).mono ?_
 rintro e _ ⟨rfl, rfl⟩
 rw [HE.out]
 cases E with
 | false =>
  have e : N = 82 := by rw [← HN.out, HE.out]; simp
  subst e
  go_wp2
  go_ret
  exact ⟨rfl, HBY.out⟩
 | true =>
  go_wp2_with fail
  refine (named_any _ _ g i 0 0 a.name (HG.out.below HBY.out) ⟨by have := HII.out; omega, hi2⟩ ⟨Nat.zero_le _, by decide⟩ ⟨Nat.zero_le _, by decide⟩).mono ?_
  rintro e w3 ⟨rfl, hb3⟩
  rw [HT.out]
  cases T with
  | true =>
   have e : N = 83 := by rw [← HN.out, HE.out, HT.out]; simp
   subst e
   have HB3 := Lib.hid (HBY.out.trans (hb3.mono HBY.out.size))
   clear hb3
   go_wp2
   go_ret
   exact ⟨rfl, HB3.out⟩
  | false =>
   have hN : (if goodP a.tag a.params then 0 else errP a.tag) = N := by
    rw [← HN.out, HE.out, HT.out]
    simp
   have HN2 := Lib.hid hN
   have y1 := cell_later hb3 y1
   have y2 := cell_later hb3 y2
   have HB3 := Lib.hid (HBY.out.trans (hb3.mono HBY.out.size))
   clear hb3 y0 hN
   go_wp2_with fail
   by_cases hg : goodP a.tag a.params
   ·
    have e : N = 0 := by rw [← HN2.out, if_pos hg]
    subst e
    refine (rof_ok _ _ sa _ sc a.params hg (HST.out.below HB3.out)).mono ?_
    rintro e w4 ⟨v1, v2, rfl, o1, o2, hb4⟩
    obtain ⟨s1, k1, rfl⟩ := owns_slice o1
    obtain ⟨s2, k2, rfl⟩ := owns_slice o2
    have HB4 := Lib.hid (HB3.out.trans (hb4.mono HB3.out.size))
    clear hb4 o1 o2
    go_wp2
    go_ret
    exact ⟨rfl, HB4.out⟩
   ·
    have e : errP a.tag = N := by rw [← HN2.out, if_neg hg]
    refine (rof_no _ _ sa _ sc a.params hg (HST.out.below HB3.out)).mono ?_
    rw [e]
    rintro e w4 ⟨rfl, hb4⟩
    have HB4 := Lib.hid (HB3.out.trans (hb4.mono HB3.out.size))
    clear hb4 hg
    go_wp2
    go_ret
    exact ⟨rfl, HB4.out⟩
/- an edge's cells behind its load, and the questions of one end: $1 what follows (the first call's contract's name), $2.. -/
set_option maxRecDepth 100000 in
set_option maxHeartbeats 4000000 in
theorem xedge_any (w : World) (v : Value) (g : GGraph) (i : Nat) (h : HasGraph w v g) (hg : actorG g) (hi : i < g.edges.length) (hi2 : i ≤ 1000000) : Calls Tryz.prog 87 #[v, .int .i64 (i : Int)] w (fun e w' => ∃ k, e = .returned (.tuple #[.int .i64 (edgeR g i g.edges[i]), .int .i64 k]) ∧ Below w.heap.size w w') := by
 obtain ⟨va, ve, vi, vo, rfl, ra, re, ri, ro⟩ := h.shape
 obtain ⟨aa, ac, rfl⟩ := ra.slice
 obtain ⟨ae, ec, rfl⟩ := re.slice
 obtain ⟨ai, ic, rfl⟩ := ri.slice
 obtain ⟨ao, oc, rfl⟩ := ro.slice
 have HG := Lib.hid h
 have HRA := Lib.hid ra
 have HRE := Lib.hid re
 have HRI := Lib.hid ri
 have HRO := Lib.hid ro
 have hb := below_alloc w (.cells #[.string g.name, .slice aa g.actors.length ac, .slice ae g.edges.length ec, .slice ai g.ins.length ic, .slice ao g.outs.length oc] 26)
 have HB := Lib.hid hb
 have hX := heap_alloc_new w (.cells #[.string g.name, .slice aa g.actors.length ac, .slice ae g.edges.length ec, .slice ai g.ins.length ic, .slice ao g.outs.length oc] 26)
 have HXB := Lib.hid hX
 have x0 := cells_row _ _ hX 0 _ rfl
 have x1 := cells_row _ _ hX 1 _ rfl
 have x2 := cells_row _ _ hX 2 _ rfl
 have x3 := cells_row _ _ hX 3 _ rfl
 have x4 := cells_row _ _ hX 4 _ rfl
 clear h ra re ri ro hb hX
 obtain ⟨b0, off, rfl, hcap, hb0, hrec⟩ := HRE.out.at (by omega)
 obtain ⟨cs, hcs, hPR, hcl⟩ := hrec i hi
 obtain ⟨xs, rfl, hst⟩ := hPR
 have c0 := cell_later HB.out (hcl 0 (by omega))
 have c1 := cell_later HB.out (hcl 1 (by omega))
 have c2 := cell_later HB.out (hcl 2 (by omega))
 have c3 := cell_later HB.out (hcl 3 (by omega))
 have c4 := cell_later HB.out (hcl 4 (by omega))
 simp at c0 c1 c2 c3 c4
 obtain ⟨sa, sc, hxs⟩ := Ints.slice hst
 subst hxs
 obtain ⟨a, hae⟩ : ∃ a, g.edges[i] = a := ⟨_, rfl⟩
 rw [hae] at c0 c1 c2 c3 c4 ⊢
 have hcapi : (g.edges.length : Int) ≤ ec := by omega
 have hii : (i : Int) < g.edges.length := by omega
 have HII := Lib.hid hi
 have HGD := Lib.hid hg
 obtain ⟨N, hN⟩ : ∃ N, edgeR g i a = N := ⟨_, rfl⟩
 rw [hN]
 unfold edgeR at hN
 obtain ⟨t1, ht1⟩ : ∃ T, outT g i 0 a.src a.sport = T := ⟨_, rfl⟩
 obtain ⟨t2, ht2⟩ : ∃ T, inT g i 0 a.dst a.dport = T := ⟨_, rfl⟩
 rw [ht1, ht2] at hN
 obtain ⟨E1, hE1⟩ : ∃ T, endR g (ratesO g) a.src a.sport t1 = T := ⟨_, rfl⟩
 obtain ⟨E2, hE2⟩ : ∃ T, endR g (ratesI g) a.dst a.dport t2 = T := ⟨_, rfl⟩
 rw [hE1, hE2] at hN
 have HN := Lib.hid hN
 have HT1 := Lib.hid ht1
 have HT2 := Lib.hid ht2
 have HE1 := Lib.hid hE1
 have HE2 := Lib.hid hE2
 clear hrec hcl hcs hst hb0 hcap hae hN ht1 ht2 hE1 hE2 hg
 have hsz : (w.alloc (.cells #[.string g.name, .slice aa g.actors.length ac, .slice (some ⟨b0, off, none⟩) g.edges.length ec, .slice ai g.ins.length ic, .slice ao g.outs.length oc] 26)).heap.size = w.heap.size + 1 := by simp
 have hby := below_alloc (w.alloc (.cells #[.string g.name, .slice aa g.actors.length ac, .slice (some ⟨b0, off, none⟩) g.edges.length ec, .slice ai g.ins.length ic, .slice ao g.outs.length oc] 26)) (.cells #[.int .i64 a.src, .int .i64 a.sport, .int .i64 a.dst, .int .i64 a.dport, .slice sa a.start.length sc] 107)
 have hY := heap_alloc_new (w.alloc (.cells #[.string g.name, .slice aa g.actors.length ac, .slice (some ⟨b0, off, none⟩) g.edges.length ec, .slice ai g.ins.length ic, .slice ao g.outs.length oc] 26)) (.cells #[.int .i64 a.src, .int .i64 a.sport, .int .i64 a.dst, .int .i64 a.dport, .slice sa a.start.length sc] 107)
 rw [hsz] at hY
 replace x0 := cell_later hby x0
 replace x1 := cell_later hby x1
 replace x2 := cell_later hby x2
 replace x3 := cell_later hby x3
 replace x4 := cell_later hby x4
 have HBY := Lib.hid (HB.out.trans (hby.mono HB.out.size))
 clear hby hsz
 have y0 := cells_row _ _ hY 0 _ rfl
 have y1 := cells_row _ _ hY 1 _ rfl
 have y2 := cells_row _ _ hY 2 _ rfl
 have y3 := cells_row _ _ hY 3 _ rfl
 have y4 := cells_row _ _ hY 4 _ rfl
 clear hY
 go_enter Tryz.func87, Tryz.ntmps87
 go_wp2_with fail
 obtain ⟨wy, hwy⟩ : ∃ x, (w.alloc (.cells #[.string g.name, .slice aa g.actors.length ac, .slice (some ⟨b0, off, none⟩) g.edges.length ec, .slice ai g.ins.length ic, .slice ao g.outs.length oc] 26)).alloc (.cells #[.int .i64 a.src, .int .i64 a.sport, .int .i64 a.dst, .int .i64 a.dport, .slice sa a.start.length sc] 107) = x := ⟨_, rfl⟩
 rw [hwy] at HBY x0 x1 x2 x3 x4 ⊢
 rw [hwy] at y0 y1 y2 y3 y4
 clear hwy c0 c1 c2 c3 c4
 obtain ⟨Y, hYe⟩ : ∃ x, w.heap.size + 1 = x := ⟨_, rfl⟩
 rw [hYe] at y0 y1 y2 y3 y4 ⊢
 clear hYe
 refine wp_region_lex1 (fun w' => (w'.cell? ⟨w.heap.size, 0, none⟩ = some (.string g.name) ∧ w'.cell? ⟨w.heap.size, 1, none⟩ = some (.slice aa g.actors.length ac) ∧ w'.cell? ⟨w.heap.size, 2, none⟩ = some (.slice (some ⟨b0, off, none⟩) g.edges.length ec) ∧ w'.cell? ⟨w.heap.size, 3, none⟩ = some (.slice ai g.ins.length ic) ∧ w'.cell? ⟨w.heap.size, 4, none⟩ = some (.slice ao g.outs.length oc)) ∧ w'.cell? ⟨Y, 0, none⟩ = some (.int .i64 a.src) ∧ w'.cell? ⟨Y, 1, none⟩ = some (.int .i64 a.sport))
  [0, 1, 2, 3, 4, 5, 6, 7, 8, 9, 10] [] 11 [12, 13] (by kernel_rfl) (by kernel_rfl) (by kernel_rfl) rfl (fun _ _ hx h => ⟨⟨hx.cell h.1.1, hx.cell h.1.2.1, hx.cell h.1.2.2.1, hx.cell h.1.2.2.2.1, hx.cell h.1.2.2.2.2⟩, hx.cell h.2.1, hx.cell h.2.2⟩) ⟨⟨x0, x1, x2, x3, x4⟩, y0, y1⟩ ?_
 intro Q' hQ'
 simp only [pickOps, List.flatMap_cons, List.flatMap_nil, List.drop_succ_cons, List.drop_zero, List.take_succ_cons, List.take_zero, List.cons_append, List.nil_append, List.append_nil]
 repeat (first
  | (refine wpReads_skip (by rfl) ?_; (try simp only [Act.put, List.setIfInBounds_toArray, List.set_cons_zero, List.set_cons_succ]))
  | (refine wpReads_cons ?_ (by rfl) (by rfl) ?_ ?_; rotate_left; (intro wz hz; (try dsimp only at hz); go_simp; try with_reducible rfl); (try simp only [Act.put, List.setIfInBounds_toArray, List.set_cons_zero, List.set_cons_succ]))
  | (refine wpReads_any ?_ (by rfl) ?_ ?_; rotate_left; (intro wz; go_simp; try with_reducible rfl); (try simp only [Act.put, List.setIfInBounds_toArray, List.set_cons_zero, List.set_cons_succ])))
 refine wpReads_nil ?_
 go_wp2_with fail
 refine (outTaken_any _ _ g i 0 a.src a.sport (HG.out.below (HBY.out).drew) (by have := HII.out; omega) (Nat.zero_le _) hi2 (by decide)).mono ?_
 rintro e w1 ⟨rfl, hb1⟩
 rw [HT1.out]
 replace x0 := cell_later hb1 x0
 replace x1 := cell_later hb1 x1
 replace x2 := cell_later hb1 x2
 replace x3 := cell_later hb1 x3
 replace x4 := cell_later hb1 x4
 replace y0 := cell_later hb1 y0
 replace y1 := cell_later hb1 y1
 replace y2 := cell_later hb1 y2
 replace y3 := cell_later hb1 y3
 replace y4 := cell_later hb1 y4
 have HBQ := Lib.hid ((HBY.out).drew.trans (hb1.mono (HBY.out).drew.size))
 clear hb1
 go_wp2
 refine ⟨⟨⟨x0, x1, x2, x3, x4⟩, y0, y1⟩, ?_⟩
 go_wp2_with fail
 refine (end_true _ _ g a.src a.sport _ (HG.out.below HBQ.out) HGD.out).mono ?_
 rintro e w2 ⟨rfl, hb2⟩
 replace x0 := cell_later hb2 x0
 replace x1 := cell_later hb2 x1
 replace x2 := cell_later hb2 x2
 replace x3 := cell_later hb2 x3
 replace x4 := cell_later hb2 x4
 replace y0 := cell_later hb2 y0
 replace y1 := cell_later hb2 y1
 replace y2 := cell_later hb2 y2
 replace y3 := cell_later hb2 y3
 replace y4 := cell_later hb2 y4
 have HBR := Lib.hid (HBQ.out.trans (hb2.mono HBQ.out.size))
 clear hb2 HBQ
 rw [HE1.out]
 by_cases z1 : E1 = 0
 ·
  rw [z1]
  have HZ1 := Lib.hid z1
  clear z1
  go_wp2_with fail
  clear HBY
  have HBZ := Lib.hid HBR.out
  clear HBR
  refine wp_region_lex1 (fun w' => (w'.cell? ⟨w.heap.size, 0, none⟩ = some (.string g.name) ∧ w'.cell? ⟨w.heap.size, 1, none⟩ = some (.slice aa g.actors.length ac) ∧ w'.cell? ⟨w.heap.size, 2, none⟩ = some (.slice (some ⟨b0, off, none⟩) g.edges.length ec) ∧ w'.cell? ⟨w.heap.size, 3, none⟩ = some (.slice ai g.ins.length ic) ∧ w'.cell? ⟨w.heap.size, 4, none⟩ = some (.slice ao g.outs.length oc)) ∧ w'.cell? ⟨Y, 2, none⟩ = some (.int .i64 a.dst) ∧ w'.cell? ⟨Y, 3, none⟩ = some (.int .i64 a.dport))
   [0, 1, 2, 3, 4, 5, 6, 7, 8, 9, 10] [] 11 [12, 13] (by kernel_rfl) (by kernel_rfl) (by kernel_rfl) rfl (fun _ _ hx h => ⟨⟨hx.cell h.1.1, hx.cell h.1.2.1, hx.cell h.1.2.2.1, hx.cell h.1.2.2.2.1, hx.cell h.1.2.2.2.2⟩, hx.cell h.2.1, hx.cell h.2.2⟩) ⟨⟨x0, x1, x2, x3, x4⟩, y2, y3⟩ ?_
  intro Q' hQ'
  simp only [pickOps, List.flatMap_cons, List.flatMap_nil, List.drop_succ_cons, List.drop_zero, List.take_succ_cons, List.take_zero, List.cons_append, List.nil_append, List.append_nil]
  repeat (first
   | (refine wpReads_skip (by rfl) ?_; (try simp only [Act.put, List.setIfInBounds_toArray, List.set_cons_zero, List.set_cons_succ]))
   | (refine wpReads_cons ?_ (by rfl) (by rfl) ?_ ?_; rotate_left; (intro wz hz; (try dsimp only at hz); go_simp; try with_reducible rfl); (try simp only [Act.put, List.setIfInBounds_toArray, List.set_cons_zero, List.set_cons_succ]))
   | (refine wpReads_any ?_ (by rfl) ?_ ?_; rotate_left; (intro wz; go_simp; try with_reducible rfl); (try simp only [Act.put, List.setIfInBounds_toArray, List.set_cons_zero, List.set_cons_succ])))
  refine wpReads_nil ?_
  go_wp2_with fail
  refine (inTaken_any _ _ g i 0 a.dst a.dport (HG.out.below (HBZ.out).drew) (by have := HII.out; omega) (Nat.zero_le _) hi2 (by decide)).mono ?_
  rintro e w1 ⟨rfl, hb1⟩
  rw [HT2.out]
  replace x0 := cell_later hb1 x0
  replace x1 := cell_later hb1 x1
  replace x2 := cell_later hb1 x2
  replace x3 := cell_later hb1 x3
  replace x4 := cell_later hb1 x4
  replace y0 := cell_later hb1 y0
  replace y1 := cell_later hb1 y1
  replace y2 := cell_later hb1 y2
  replace y3 := cell_later hb1 y3
  replace y4 := cell_later hb1 y4
  have HBQ := Lib.hid ((HBZ.out).drew.trans (hb1.mono (HBZ.out).drew.size))
  clear hb1
  go_wp2
  refine ⟨⟨⟨x0, x1, x2, x3, x4⟩, y2, y3⟩, ?_⟩
  go_wp2_with fail
  refine (end_false _ _ g a.dst a.dport _ (HG.out.below HBQ.out) HGD.out).mono ?_
  rintro e w2 ⟨rfl, hb2⟩
  replace x0 := cell_later hb2 x0
  replace x1 := cell_later hb2 x1
  replace x2 := cell_later hb2 x2
  replace x3 := cell_later hb2 x3
  replace x4 := cell_later hb2 x4
  replace y0 := cell_later hb2 y0
  replace y1 := cell_later hb2 y1
  replace y2 := cell_later hb2 y2
  replace y3 := cell_later hb2 y3
  replace y4 := cell_later hb2 y4
  have HBR := Lib.hid (HBQ.out.trans (hb2.mono HBQ.out.size))
  clear hb2 HBQ
  rw [HE2.out]
  by_cases z2 : E2 = 0
  ·
   rw [z2]
   have HZ2 := Lib.hid z2
   clear z2
   by_cases hl : 256 < a.start.length
   ·
    have e : N = 88 := by rw [← HN.out, HZ1.out, HZ2.out, if_neg (by simp), if_neg (by simp), if_pos hl]
    subst e
    have hli : (256 : Int) < a.start.length := by omega
    go_wp2
    go_ret2
    exact ⟨_, rfl, HBR.out⟩
   ·
    have e : N = 0 := by rw [← HN.out, HZ1.out, HZ2.out, if_neg (by simp), if_neg (by simp), if_neg hl]
    subst e
    have hli : ¬ (256 : Int) < a.start.length := by omega
    go_wp2
    go_ret2
    exact ⟨_, rfl, HBR.out⟩
  ·
   have e : E2 = N := by rw [← HN.out, HZ1.out, if_neg (by simp), if_pos z2]
   have hb : (E2 != 0) = true := by rw [bne_iff_ne]; exact z2
   rw [e] at hb ⊢
   clear z2 HE2
   go_wp2
   go_ret2
   exact ⟨_, rfl, HBR.out⟩
 ·
  have e : E1 = N := by rw [← HN.out, if_pos z1]
  have hb : (E1 != 0) = true := by rw [bne_iff_ne]; exact z1
  rw [e] at hb ⊢
  clear z1 HE1
  go_wp2
  go_ret2
  exact ⟨_, rfl, HBR.out⟩
end Go.Proofs.YtaholpfikcdhbaaGreat

/- What is wrong with an input or an output, as the reference tells it. -/
namespace Go.Proofs.YtaholpfikcdhbaaGreat
open Go.RowKit
set_option maxRecDepth 100000 in
set_option maxHeartbeats 4000000 in
theorem xin_any (w : World) (v : Value) (g : GGraph) (i : Nat) (h : HasGraph w v g) (hs : GSized g) (hg : actorG g) (hi : i < g.ins.length) (hf : g.actors.length ≤ 1000000 ∧ g.edges.length ≤ 1000000 ∧ g.ins.length ≤ 1000000 ∧ g.outs.length ≤ 1000000) : Calls Tryz.prog 88 #[v, .int .i64 (i : Int)] w (fun e w' => ∃ k, e = .returned (.tuple #[.int .i64 (inR g i g.ins[i]), .int .i64 k]) ∧ Below w.heap.size w w') := by
 obtain ⟨va, ve, vi, vo, rfl, ra, re, ri, ro⟩ := h.shape
 obtain ⟨aa, ac, rfl⟩ := ra.slice
 obtain ⟨ae, ec, rfl⟩ := re.slice
 obtain ⟨ai, ic, rfl⟩ := ri.slice
 obtain ⟨ao, oc, rfl⟩ := ro.slice
 have HG := Lib.hid h
 have HRA := Lib.hid ra
 have HRE := Lib.hid re
 have HRI := Lib.hid ri
 have HRO := Lib.hid ro
 have hb := below_alloc w (.cells #[.string g.name, .slice aa g.actors.length ac, .slice ae g.edges.length ec, .slice ai g.ins.length ic, .slice ao g.outs.length oc] 26)
 have HB := Lib.hid hb
 have hX := heap_alloc_new w (.cells #[.string g.name, .slice aa g.actors.length ac, .slice ae g.edges.length ec, .slice ai g.ins.length ic, .slice ao g.outs.length oc] 26)
 have HXB := Lib.hid hX
 have x0 := cells_row _ _ hX 0 _ rfl
 have x1 := cells_row _ _ hX 1 _ rfl
 have x2 := cells_row _ _ hX 2 _ rfl
 have x3 := cells_row _ _ hX 3 _ rfl
 have x4 := cells_row _ _ hX 4 _ rfl
 clear h ra re ri ro hb hX
 obtain ⟨fa, fe, fi, fo⟩ := hf
 obtain ⟨b0, off, rfl, hcap, hb0, hrec⟩ := HRI.out.at (by omega)
 obtain ⟨cs, hcs, hPR, hcl⟩ := hrec i hi
 obtain rfl := hPR
 have c0 := cell_later HB.out (hcl 0 (by omega))
 have c1 := cell_later HB.out (hcl 1 (by omega))
 have c2 := cell_later HB.out (hcl 2 (by omega))
 simp at c0 c1 c2
 obtain ⟨a, hae⟩ : ∃ a, g.ins[i] = a := ⟨_, rfl⟩
 have hnm := hs.2.2.1 _ (List.getElem_mem hi)
 rw [hae] at c0 c1 c2 hnm ⊢
 have HNM := Lib.hid hnm
 have hcapi : (g.ins.length : Int) ≤ ic := by omega
 have hii : (i : Int) < g.ins.length := by omega
 have HII := Lib.hid hi
 have HGD := Lib.hid hg
 obtain ⟨N, hN⟩ : ∃ N, inR g i a = N := ⟨_, rfl⟩
 rw [hN]
 unfold inR nameR at hN
 obtain ⟨E, hE⟩ : ∃ E, nameP a.name = E := ⟨_, rfl⟩
 obtain ⟨T, hT⟩ : ∃ T, namedR g g.actors.length i 0 a.name = T := ⟨_, rfl⟩
 obtain ⟨t1, ht1⟩ : ∃ T, inT g g.edges.length i a.actor a.port = T := ⟨_, rfl⟩
 rw [hE, hT, ht1] at hN
 obtain ⟨E1, hE1⟩ : ∃ T, endR g (ratesI g) a.actor a.port t1 = T := ⟨_, rfl⟩
 rw [hE1] at hN
 have HN := Lib.hid hN
 have HE := Lib.hid hE
 have HT := Lib.hid hT
 have HT1 := Lib.hid ht1
 have HE1 := Lib.hid hE1
 clear hrec hcl hcs hb0 hcap hae hN ht1 hE1 hg hE hT hnm
 have hsz : (w.alloc (.cells #[.string g.name, .slice aa g.actors.length ac, .slice ae g.edges.length ec, .slice (some ⟨b0, off, none⟩) g.ins.length ic, .slice ao g.outs.length oc] 26)).heap.size = w.heap.size + 1 := by simp
 have hby := below_alloc (w.alloc (.cells #[.string g.name, .slice aa g.actors.length ac, .slice ae g.edges.length ec, .slice (some ⟨b0, off, none⟩) g.ins.length ic, .slice ao g.outs.length oc] 26)) (.cells #[.string a.name, .int .i64 a.actor, .int .i64 a.port] 118)
 have hY := heap_alloc_new (w.alloc (.cells #[.string g.name, .slice aa g.actors.length ac, .slice ae g.edges.length ec, .slice (some ⟨b0, off, none⟩) g.ins.length ic, .slice ao g.outs.length oc] 26)) (.cells #[.string a.name, .int .i64 a.actor, .int .i64 a.port] 118)
 rw [hsz] at hY
 replace x0 := cell_later hby x0
 replace x1 := cell_later hby x1
 replace x2 := cell_later hby x2
 replace x3 := cell_later hby x3
 replace x4 := cell_later hby x4
 have HBY := Lib.hid (HB.out.trans (hby.mono HB.out.size))
 clear hby hsz
 have y0 := cells_row _ _ hY 0 _ rfl
 have y1 := cells_row _ _ hY 1 _ rfl
 have y2 := cells_row _ _ hY 2 _ rfl
 clear hY
 go_enter Tryz.func88, Tryz.ntmps88
 go_wp2_with fail
 obtain ⟨wy, hwy⟩ : ∃ x, (w.alloc (.cells #[.string g.name, .slice aa g.actors.length ac, .slice ae g.edges.length ec, .slice (some ⟨b0, off, none⟩) g.ins.length ic, .slice ao g.outs.length oc] 26)).alloc (.cells #[.string a.name, .int .i64 a.actor, .int .i64 a.port] 118) = x := ⟨_, rfl⟩
 rw [hwy] at HBY x0 x1 x2 x3 x4 ⊢
 rw [hwy] at y0 y1 y2
 clear hwy c0 c1 c2
 obtain ⟨Y, hYe⟩ : ∃ x, w.heap.size + 1 = x := ⟨_, rfl⟩
 rw [hYe] at y0 y1 y2 ⊢
 clear hYe
 refine (xname_any _ _ HNM.out).mono ?_
 rintro e _ ⟨rfl, rfl⟩
 rw [HE.out]
 cases E with
 | false =>
  have e : N = 82 := by rw [← HN.out]; simp
  subst e
  go_wp2
  go_ret2
  exact ⟨_, rfl, HBY.out⟩
 | true =>
  go_wp2_with fail
  refine (named_any _ _ g g.actors.length i 0 a.name (HG.out.below HBY.out) ⟨Nat.le_refl _, fa⟩ ⟨by have := HII.out; omega, by have := HII.out; omega⟩ ⟨Nat.zero_le _, by decide⟩).mono ?_
  rintro e w3 ⟨rfl, hb3⟩
  rw [HT.out]
  cases T with
  | true =>
   have e : N = 83 := by rw [← HN.out]; simp
   subst e
   have HB3 := Lib.hid (HBY.out.trans (hb3.mono HBY.out.size))
   clear hb3
   go_wp2
   go_ret2
   exact ⟨_, rfl, HB3.out⟩
  | false =>
   have e : E1 = N := by rw [← HN.out]; simp
   have HE3 := Lib.hid e
   replace x0 := cell_later hb3 x0
   replace x1 := cell_later hb3 x1
   replace x2 := cell_later hb3 x2
   replace x3 := cell_later hb3 x3
   replace x4 := cell_later hb3 x4
   replace y1 := cell_later hb3 y1
   replace y2 := cell_later hb3 y2
   have HB3 := Lib.hid (HBY.out.trans (hb3.mono HBY.out.size))
   clear hb3 y0 e HBY
   go_wp2_with fail
   refine wp_region_lex1 (fun w' => (w'.cell? ⟨w.heap.size, 0, none⟩ = some (.string g.name) ∧ w'.cell? ⟨w.heap.size, 1, none⟩ = some (.slice aa g.actors.length ac) ∧ w'.cell? ⟨w.heap.size, 2, none⟩ = some (.slice ae g.edges.length ec) ∧ w'.cell? ⟨w.heap.size, 3, none⟩ = some (.slice (some ⟨b0, off, none⟩) g.ins.length ic) ∧ w'.cell? ⟨w.heap.size, 4, none⟩ = some (.slice ao g.outs.length oc)) ∧ w'.cell? ⟨Y, 1, none⟩ = some (.int .i64 a.actor) ∧ w'.cell? ⟨Y, 2, none⟩ = some (.int .i64 a.port))
    [0, 1, 2, 3, 4, 5, 6, 7, 8, 9, 10, 11, 12, 13] [] 14 [15, 16, 17] (by kernel_rfl) (by kernel_rfl) (by kernel_rfl) rfl (fun _ _ hx h => ⟨⟨hx.cell h.1.1, hx.cell h.1.2.1, hx.cell h.1.2.2.1, hx.cell h.1.2.2.2.1, hx.cell h.1.2.2.2.2⟩, hx.cell h.2.1, hx.cell h.2.2⟩) ⟨⟨x0, x1, x2, x3, x4⟩, y1, y2⟩ ?_
   intro Q' hQ'
   simp only [pickOps, List.flatMap_cons, List.flatMap_nil, List.drop_succ_cons, List.drop_zero, List.take_succ_cons, List.take_zero, List.cons_append, List.nil_append, List.append_nil]
   repeat (first
    | (refine wpReads_skip (by rfl) ?_; (try simp only [Act.put, List.setIfInBounds_toArray, List.set_cons_zero, List.set_cons_succ]))
    | (refine wpReads_cons ?_ (by rfl) (by rfl) ?_ ?_; rotate_left; (intro wz hz; (try dsimp only at hz); go_simp; try with_reducible rfl); (try simp only [Act.put, List.setIfInBounds_toArray, List.set_cons_zero, List.set_cons_succ]))
    | (refine wpReads_any ?_ (by rfl) ?_ ?_; rotate_left; (intro wz; go_simp; try with_reducible rfl); (try simp only [Act.put, List.setIfInBounds_toArray, List.set_cons_zero, List.set_cons_succ])))
   refine wpReads_nil ?_
   go_wp2_with fail
   refine (inTaken_any _ _ g g.edges.length i a.actor a.port (HG.out.below HB3.out.drew) (Nat.le_refl _) (by have := HII.out; omega) fe (by have := HII.out; omega)).mono ?_
   rintro e w4 ⟨rfl, hb4⟩
   rw [HT1.out]
   replace x0 := cell_later hb4 x0
   replace x1 := cell_later hb4 x1
   replace x2 := cell_later hb4 x2
   replace x3 := cell_later hb4 x3
   replace x4 := cell_later hb4 x4
   replace y1 := cell_later hb4 y1
   replace y2 := cell_later hb4 y2
   have HB4 := Lib.hid (HB3.out.drew.trans (hb4.mono HB3.out.drew.size))
   clear hb4
   go_wp2
   refine ⟨⟨⟨x0, x1, x2, x3, x4⟩, y1, y2⟩, ?_⟩
   go_wp2_with fail
   refine (end_false _ _ g a.actor a.port _ (HG.out.below HB4.out) HGD.out).mono ?_
   rintro e w5 ⟨rfl, hb5⟩
   rw [HE1.out, HE3.out]
   have HB5 := Lib.hid (HB4.out.trans (hb5.mono HB4.out.size))
   clear hb5 HE1 HE3
   go_wp2
   go_ret2
   exact ⟨_, rfl, HB5.out⟩
set_option maxRecDepth 100000 in
set_option maxHeartbeats 4000000 in
theorem xout_any (w : World) (v : Value) (g : GGraph) (i : Nat) (h : HasGraph w v g) (hs : GSized g) (hg : actorG g) (hi : i < g.outs.length) (hf : g.actors.length ≤ 1000000 ∧ g.edges.length ≤ 1000000 ∧ g.ins.length ≤ 1000000 ∧ g.outs.length ≤ 1000000) : Calls Tryz.prog 89 #[v, .int .i64 (i : Int)] w (fun e w' => ∃ k, e = .returned (.tuple #[.int .i64 (outR g i g.outs[i]), .int .i64 k]) ∧ Below w.heap.size w w') := by
 obtain ⟨va, ve, vi, vo, rfl, ra, re, ri, ro⟩ := h.shape
 obtain ⟨aa, ac, rfl⟩ := ra.slice
 obtain ⟨ae, ec, rfl⟩ := re.slice
 obtain ⟨ai, ic, rfl⟩ := ri.slice
 obtain ⟨ao, oc, rfl⟩ := ro.slice
 have HG := Lib.hid h
 have HRA := Lib.hid ra
 have HRE := Lib.hid re
 have HRI := Lib.hid ri
 have HRO := Lib.hid ro
 have hb := below_alloc w (.cells #[.string g.name, .slice aa g.actors.length ac, .slice ae g.edges.length ec, .slice ai g.ins.length ic, .slice ao g.outs.length oc] 26)
 have HB := Lib.hid hb
 have hX := heap_alloc_new w (.cells #[.string g.name, .slice aa g.actors.length ac, .slice ae g.edges.length ec, .slice ai g.ins.length ic, .slice ao g.outs.length oc] 26)
 have HXB := Lib.hid hX
 have x0 := cells_row _ _ hX 0 _ rfl
 have x1 := cells_row _ _ hX 1 _ rfl
 have x2 := cells_row _ _ hX 2 _ rfl
 have x3 := cells_row _ _ hX 3 _ rfl
 have x4 := cells_row _ _ hX 4 _ rfl
 clear h ra re ri ro hb hX
 obtain ⟨fa, fe, fi, fo⟩ := hf
 obtain ⟨b0, off, rfl, hcap, hb0, hrec⟩ := HRO.out.at (by omega)
 obtain ⟨cs, hcs, hPR, hcl⟩ := hrec i hi
 obtain rfl := hPR
 have c0 := cell_later HB.out (hcl 0 (by omega))
 have c1 := cell_later HB.out (hcl 1 (by omega))
 have c2 := cell_later HB.out (hcl 2 (by omega))
 simp at c0 c1 c2
 obtain ⟨a, hae⟩ : ∃ a, g.outs[i] = a := ⟨_, rfl⟩
 have hnm := hs.2.2.2 _ (List.getElem_mem hi)
 rw [hae] at c0 c1 c2 hnm ⊢
 have HNM := Lib.hid hnm
 have hcapi : (g.outs.length : Int) ≤ oc := by omega
 have hii : (i : Int) < g.outs.length := by omega
 have HII := Lib.hid hi
 have HGD := Lib.hid hg
 obtain ⟨N, hN⟩ : ∃ N, outR g i a = N := ⟨_, rfl⟩
 rw [hN]
 unfold outR nameR at hN
 obtain ⟨E, hE⟩ : ∃ E, nameP a.name = E := ⟨_, rfl⟩
 obtain ⟨T, hT⟩ : ∃ T, namedR g g.actors.length g.ins.length i a.name = T := ⟨_, rfl⟩
 obtain ⟨t1, ht1⟩ : ∃ T, outT g g.edges.length i a.actor a.port = T := ⟨_, rfl⟩
 rw [hE, hT, ht1] at hN
 obtain ⟨E1, hE1⟩ : ∃ T, endR g (ratesO g) a.actor a.port t1 = T := ⟨_, rfl⟩
 rw [hE1] at hN
 have HN := Lib.hid hN
 have HE := Lib.hid hE
 have HT := Lib.hid hT
 have HT1 := Lib.hid ht1
 have HE1 := Lib.hid hE1
 clear hrec hcl hcs hb0 hcap hae hN ht1 hE1 hg hE hT hnm
 have hsz : (w.alloc (.cells #[.string g.name, .slice aa g.actors.length ac, .slice ae g.edges.length ec, .slice ai g.ins.length ic, .slice (some ⟨b0, off, none⟩) g.outs.length oc] 26)).heap.size = w.heap.size + 1 := by simp
 have hby := below_alloc (w.alloc (.cells #[.string g.name, .slice aa g.actors.length ac, .slice ae g.edges.length ec, .slice ai g.ins.length ic, .slice (some ⟨b0, off, none⟩) g.outs.length oc] 26)) (.cells #[.string a.name, .int .i64 a.actor, .int .i64 a.port] 118)
 have hY := heap_alloc_new (w.alloc (.cells #[.string g.name, .slice aa g.actors.length ac, .slice ae g.edges.length ec, .slice ai g.ins.length ic, .slice (some ⟨b0, off, none⟩) g.outs.length oc] 26)) (.cells #[.string a.name, .int .i64 a.actor, .int .i64 a.port] 118)
 rw [hsz] at hY
 replace x0 := cell_later hby x0
 replace x1 := cell_later hby x1
 replace x2 := cell_later hby x2
 replace x3 := cell_later hby x3
 replace x4 := cell_later hby x4
 have HBY := Lib.hid (HB.out.trans (hby.mono HB.out.size))
 clear hby hsz
 have y0 := cells_row _ _ hY 0 _ rfl
 have y1 := cells_row _ _ hY 1 _ rfl
 have y2 := cells_row _ _ hY 2 _ rfl
 clear hY
 go_enter Tryz.func89, Tryz.ntmps89
 go_wp2_with fail
 obtain ⟨wy, hwy⟩ : ∃ x, (w.alloc (.cells #[.string g.name, .slice aa g.actors.length ac, .slice ae g.edges.length ec, .slice ai g.ins.length ic, .slice (some ⟨b0, off, none⟩) g.outs.length oc] 26)).alloc (.cells #[.string a.name, .int .i64 a.actor, .int .i64 a.port] 118) = x := ⟨_, rfl⟩
 rw [hwy] at HBY x0 x1 x2 x3 x4 ⊢
 rw [hwy] at y0 y1 y2
 clear hwy c0 c1 c2
 obtain ⟨Y, hYe⟩ : ∃ x, w.heap.size + 1 = x := ⟨_, rfl⟩
 rw [hYe] at y0 y1 y2 ⊢
 clear hYe
 refine (xname_any _ _ HNM.out).mono ?_
 rintro e _ ⟨rfl, rfl⟩
 rw [HE.out]
 cases E with
 | false =>
  have e : N = 82 := by rw [← HN.out]; simp
  subst e
  go_wp2
  go_ret2
  exact ⟨_, rfl, HBY.out⟩
 | true =>
  go_wp2_with fail
  refine (named_any _ _ g g.actors.length g.ins.length i a.name (HG.out.below HBY.out) ⟨Nat.le_refl _, fa⟩ ⟨Nat.le_refl _, fi⟩ ⟨by have := HII.out; omega, by have := HII.out; omega⟩).mono ?_
  rintro e w3 ⟨rfl, hb3⟩
  rw [HT.out]
  cases T with
  | true =>
   have e : N = 83 := by rw [← HN.out]; simp
   subst e
   have HB3 := Lib.hid (HBY.out.trans (hb3.mono HBY.out.size))
   clear hb3
   go_wp2
   go_ret2
   exact ⟨_, rfl, HB3.out⟩
  | false =>
   have e : E1 = N := by rw [← HN.out]; simp
   have HE3 := Lib.hid e
   replace x0 := cell_later hb3 x0
   replace x1 := cell_later hb3 x1
   replace x2 := cell_later hb3 x2
   replace x3 := cell_later hb3 x3
   replace x4 := cell_later hb3 x4
   replace y1 := cell_later hb3 y1
   replace y2 := cell_later hb3 y2
   have HB3 := Lib.hid (HBY.out.trans (hb3.mono HBY.out.size))
   clear hb3 y0 e HBY
   go_wp2_with fail
   refine wp_region_lex1 (fun w' => (w'.cell? ⟨w.heap.size, 0, none⟩ = some (.string g.name) ∧ w'.cell? ⟨w.heap.size, 1, none⟩ = some (.slice aa g.actors.length ac) ∧ w'.cell? ⟨w.heap.size, 2, none⟩ = some (.slice ae g.edges.length ec) ∧ w'.cell? ⟨w.heap.size, 3, none⟩ = some (.slice ai g.ins.length ic) ∧ w'.cell? ⟨w.heap.size, 4, none⟩ = some (.slice (some ⟨b0, off, none⟩) g.outs.length oc)) ∧ w'.cell? ⟨Y, 1, none⟩ = some (.int .i64 a.actor) ∧ w'.cell? ⟨Y, 2, none⟩ = some (.int .i64 a.port))
    [0, 1, 2, 3, 4, 5, 6, 7, 8, 9, 10, 11, 12, 13] [] 14 [15, 16, 17] (by kernel_rfl) (by kernel_rfl) (by kernel_rfl) rfl (fun _ _ hx h => ⟨⟨hx.cell h.1.1, hx.cell h.1.2.1, hx.cell h.1.2.2.1, hx.cell h.1.2.2.2.1, hx.cell h.1.2.2.2.2⟩, hx.cell h.2.1, hx.cell h.2.2⟩) ⟨⟨x0, x1, x2, x3, x4⟩, y1, y2⟩ ?_
   intro Q' hQ'
   simp only [pickOps, List.flatMap_cons, List.flatMap_nil, List.drop_succ_cons, List.drop_zero, List.take_succ_cons, List.take_zero, List.cons_append, List.nil_append, List.append_nil]
   repeat (first
    | (refine wpReads_skip (by rfl) ?_; (try simp only [Act.put, List.setIfInBounds_toArray, List.set_cons_zero, List.set_cons_succ]))
    | (refine wpReads_cons ?_ (by rfl) (by rfl) ?_ ?_; rotate_left; (intro wz hz; (try dsimp only at hz); go_simp; try with_reducible rfl); (try simp only [Act.put, List.setIfInBounds_toArray, List.set_cons_zero, List.set_cons_succ]))
    | (refine wpReads_any ?_ (by rfl) ?_ ?_; rotate_left; (intro wz; go_simp; try with_reducible rfl); (try simp only [Act.put, List.setIfInBounds_toArray, List.set_cons_zero, List.set_cons_succ])))
   refine wpReads_nil ?_
   go_wp2_with fail
   refine (outTaken_any _ _ g g.edges.length i a.actor a.port (HG.out.below HB3.out.drew) (Nat.le_refl _) (by have := HII.out; omega) fe (by have := HII.out; omega)).mono ?_
   rintro e w4 ⟨rfl, hb4⟩
   rw [HT1.out]
   replace x0 := cell_later hb4 x0
   replace x1 := cell_later hb4 x1
   replace x2 := cell_later hb4 x2
   replace x3 := cell_later hb4 x3
   replace x4 := cell_later hb4 x4
   replace y1 := cell_later hb4 y1
   replace y2 := cell_later hb4 y2
   have HB4 := Lib.hid (HB3.out.drew.trans (hb4.mono HB3.out.drew.size))
   clear hb4
   go_wp2
   refine ⟨⟨⟨x0, x1, x2, x3, x4⟩, y1, y2⟩, ?_⟩
   go_wp2_with fail
   refine (end_true _ _ g a.actor a.port _ (HG.out.below HB4.out) HGD.out).mono ?_
   rintro e w5 ⟨rfl, hb5⟩
   rw [HE1.out, HE3.out]
   have HB5 := Lib.hid (HB4.out.trans (hb5.mono HB4.out.size))
   clear hb5 HE1 HE3
   go_wp2
   go_ret2
   exact ⟨_, rfl, HB5.out⟩
end Go.Proofs.YtaholpfikcdhbaaGreat

/- Has an actor a port that nothing is on, as the reference tells it. -/
namespace Go.Proofs.YtaholpfikcdhbaaGreat
open Go.RowKit
theorem open_yes {n m : Nat} {f g : Nat → Bool} {j : Nat} (hj : j < n) (hf : f j = false) : ((List.range n).any (fun k => !f k) || (List.range m).any (fun k => !g k)) = true := by
 rw [Bool.or_eq_true, List.any_eq_true]
 exact .inl ⟨j, List.mem_range.2 hj, by rw [hf]; rfl⟩
theorem open_yes2 {n m : Nat} {f g : Nat → Bool} {j : Nat} (hj : j < m) (hf : g j = false) : ((List.range n).any (fun k => !f k) || (List.range m).any (fun k => !g k)) = true := by
 rw [Bool.or_eq_true, List.any_eq_true, List.any_eq_true]
 exact .inr ⟨j, List.mem_range.2 hj, by rw [hf]; rfl⟩
theorem open_no {n m : Nat} {f g : Nat → Bool} (hf : ∀ j, j < n → f j = true) (hg : ∀ j, j < m → g j = true) : ((List.range n).any (fun k => !f k) || (List.range m).any (fun k => !g k)) = false := by
 rw [Bool.or_eq_false_iff, List.any_eq_false, List.any_eq_false]
 exact ⟨fun k hk => by rw [hf k (List.mem_range.1 hk)]; simp, fun k hk => by rw [hg k (List.mem_range.1 hk)]; simp⟩
set_option maxRecDepth 100000 in
set_option maxHeartbeats 4000000 in
theorem xopen_any (w : World) (v : Value) (g : GGraph) (i : Nat) (h : HasGraph w v g) (hg : actorG g) (hi : i < g.actors.length) (hf : g.actors.length ≤ 1000000 ∧ g.edges.length ≤ 1000000 ∧ g.ins.length ≤ 1000000 ∧ g.outs.length ≤ 1000000) : Calls Tryz.prog 90 #[v, .int .i64 (i : Int)] w (Tells (.bool (openR1 g i)) w) := by
 obtain ⟨va, ve, vi, vo, rfl, ra, re, ri, ro⟩ := h.shape
 obtain ⟨aa, ac, rfl⟩ := ra.slice
 obtain ⟨ae, ec, rfl⟩ := re.slice
 obtain ⟨ai, ic, rfl⟩ := ri.slice
 obtain ⟨ao, oc, rfl⟩ := ro.slice
 have HG := Lib.hid h
 have HRA := Lib.hid ra
 have HRE := Lib.hid re
 have HRI := Lib.hid ri
 have HRO := Lib.hid ro
 have hb := below_alloc w (.cells #[.string g.name, .slice aa g.actors.length ac, .slice ae g.edges.length ec, .slice ai g.ins.length ic, .slice ao g.outs.length oc] 26)
 have HB := Lib.hid hb
 have hX := heap_alloc_new w (.cells #[.string g.name, .slice aa g.actors.length ac, .slice ae g.edges.length ec, .slice ai g.ins.length ic, .slice ao g.outs.length oc] 26)
 have HXB := Lib.hid hX
 have x0 := cells_row _ _ hX 0 _ rfl
 have x1 := cells_row _ _ hX 1 _ rfl
 have x2 := cells_row _ _ hX 2 _ rfl
 have x3 := cells_row _ _ hX 3 _ rfl
 have x4 := cells_row _ _ hX 4 _ rfl
 clear h ra re ri ro hb hX
 obtain ⟨fa, fe, fi, fo⟩ := hf
 have hR := rates_any' _ _ g i (HG.out.below HB.out) hi (hg _ (List.getElem_mem hi))
 have hsI : (ratesI g i).length ≤ 16 ∧ (ratesO g i).length ≤ 16 := by
  have := shape_len (hg _ (List.getElem_mem hi))
  unfold ratesI ratesO
  rw [List.getElem?_eq_getElem hi]
  exact this
 obtain ⟨N, hN⟩ : ∃ N, openR1 g i = N := ⟨_, rfl⟩
 rw [hN]
 unfold openR1 at hN
 obtain ⟨n, hn⟩ : ∃ n, (ratesI g i).length = n := ⟨_, rfl⟩
 obtain ⟨m, hm⟩ : ∃ n, (ratesO g i).length = n := ⟨_, rfl⟩
 rw [hn, hm] at hN hR hsI
 have HR := Lib.hid hR
 have HN := Lib.hid hN
 clear hR hN hn hm hg
 obtain ⟨hn16, hm16⟩ := hsI
 go_enter Tryz.func90, Tryz.ntmps90
 go_wp2_with fail
 refine HR.out.mono ?_
 rintro e w1 ⟨rfl, hb1⟩
 replace x0 := cell_later hb1 x0
 replace x1 := cell_later hb1 x1
 replace x2 := cell_later hb1 x2
 replace x3 := cell_later hb1 x3
 replace x4 := cell_later hb1 x4
 have HB1 := Lib.hid (HB.out.trans (hb1.mono HB.out.size))
 clear hb1 HR HB HXB
 go_wp2_with fail
 go_loopw [7] (fun x wl => ∃ j : Nat, j ≤ n ∧ x = .int .i64 j ∧ Below w1.heap.size w1 wl ∧ ∀ k, k < j → inT g g.edges.length g.ins.length i k = true) (fun x _ => n - (intOf x).toNat)
 case atStart => exact ⟨0, Nat.zero_le _, rfl, Below.refl _ _, fun k hk => by omega⟩
 case round =>
  obtain ⟨j, hj, rfl, hbl, hall⟩ := hrel
  have HA := Lib.hid hall
  have HBL := Lib.hid hbl
  have HBW := Lib.hid (HB1.out.trans (hbl.mono HB1.out.size))
  clear hall hbl
  by_cases hlt : j < n
  ·
   have hlti : (j : Int) < n := by omega
   have y0 := cell_later HBL.out x0
   have y1 := cell_later HBL.out x1
   have y2 := cell_later HBL.out x2
   have y3 := cell_later HBL.out x3
   have y4 := cell_later HBL.out x4
   go_wp2_with fail
   refine (inTaken_any _ _ g g.edges.length g.ins.length i j (HG.out.below HBW.out) (Nat.le_refl _) (Nat.le_refl _) fe fi).mono ?_
   rintro e w2 ⟨rfl, hb2⟩
   obtain ⟨T, hT⟩ : ∃ T, inT g g.edges.length g.ins.length i j = T := ⟨_, rfl⟩
   rw [hT]
   have HT := Lib.hid hT
   have HB2 := Lib.hid (HBL.out.trans (hb2.mono HBL.out.size))
   have HBW2 := Lib.hid (HBW.out.trans (hb2.mono HBW.out.size))
   clear hT hb2 y0 y1 y2 y3 y4
   cases T with
   | false =>
    have e : N = true := by rw [← HN.out]; exact open_yes (f := fun k => inT g g.edges.length g.ins.length i k) hlt HT.out
    subst e
    go_wp2
    go_ret
    exact ⟨rfl, HBW2.out⟩
   | true =>
    go_wp2
    go_roundw
    case rel => exact ⟨j + 1, hlt, by go_num, HB2.out, fun k hk => by
     by_cases e : k = j
     ·
      subst e; exact HT.out
     ·
      exact HA.out k (by omega)⟩
    case measure => simp [intOf]; omega
  ·
   obtain rfl : j = n := by omega
   have hlti : ¬ ((j : Int) < j) := by omega
   have y0 := cell_later HBL.out x0
   have y1 := cell_later HBL.out x1
   have y2 := cell_later HBL.out x2
   have y3 := cell_later HBL.out x3
   have y4 := cell_later HBL.out x4
   clear hlt hj x0 x1 x2 x3 x4
   go_wp2_with fail
   go_loopw [8] (fun x wl => ∃ j : Nat, j ≤ m ∧ x = .int .i64 j ∧ Below wr.heap.size wr wl ∧ ∀ k, k < j → outT g g.edges.length g.outs.length i k = true) (fun x _ => m - (intOf x).toNat)
   case atStart => exact ⟨0, Nat.zero_le _, rfl, Below.refl _ _, fun k hk => by omega⟩
   case round =>
    obtain ⟨k, hk, rfl, hbl, hall⟩ := hrel
    have HA2 := Lib.hid hall
    have HBL2 := Lib.hid hbl
    have HBW2 := Lib.hid (HBW.out.trans (hbl.mono HBW.out.size))
    clear hall hbl
    by_cases hlt : k < m
    ·
     have hlti : (k : Int) < m := by omega
     have z0 := cell_later HBL2.out y0
     have z1 := cell_later HBL2.out y1
     have z2 := cell_later HBL2.out y2
     have z3 := cell_later HBL2.out y3
     have z4 := cell_later HBL2.out y4
     go_wp2_with fail
     refine (outTaken_any _ _ g g.edges.length g.outs.length i k (HG.out.below HBW2.out) (Nat.le_refl _) (Nat.le_refl _) fe fo).mono ?_
     rintro e w2 ⟨rfl, hb2⟩
     obtain ⟨T, hT⟩ : ∃ T, outT g g.edges.length g.outs.length i k = T := ⟨_, rfl⟩
     rw [hT]
     have HT := Lib.hid hT
     have HB2 := Lib.hid (HBL2.out.trans (hb2.mono HBL2.out.size))
     have HBW3 := Lib.hid (HBW2.out.trans (hb2.mono HBW2.out.size))
     clear hT hb2 z0 z1 z2 z3 z4
     cases T with
     | false =>
      have e : N = true := by rw [← HN.out]; exact open_yes2 (g := fun k => outT g g.edges.length g.outs.length i k) hlt HT.out
      subst e
      go_wp2
      go_ret
      exact ⟨rfl, HBW3.out⟩
     | true =>
      go_wp2
      go_roundw
      case rel => exact ⟨k + 1, hlt, by go_num, HB2.out, fun q hq => by
       by_cases e : q = k
       ·
        subst e; exact HT.out
       ·
        exact HA2.out q (by omega)⟩
      case measure => simp [intOf]; omega
    ·
     obtain rfl : k = m := by omega
     have hlti : ¬ ((k : Int) < k) := by omega
     have e : N = false := by rw [← HN.out]; exact open_no (f := fun k => inT g g.edges.length g.ins.length i k) (g := fun k => outT g g.edges.length g.outs.length i k) HA.out HA2.out
     subst e
     go_wp2
     go_ret
     exact ⟨rfl, HBW2.out⟩
end Go.Proofs.YtaholpfikcdhbaaGreat

/- Blocks made one behind the other. No function in sight. -/
namespace Go.Proofs.YtaholpfikcdhbaaGreat
open Go.RowKit
abbrev allocs (w : World) (os : List Obj) : World := os.foldl World.alloc w
theorem allocs_keep : ∀ (os : List Obj) (w : World) (b : Nat) (x : Obj), w.heap[b]? = some x → (allocs w os).heap[b]? = some x
 | [], _, _, _, h => h
 | o :: os, w, b, x, h => allocs_keep os (w.alloc o) b x (block_alloc h o)
theorem allocs_get : ∀ (os : List Obj) (w : World) (k : Nat) (o : Obj), os[k]? = some o → (allocs w os).heap[w.heap.size + k]? = some o
 | [], _, _, _, h => by simp at h
 | x :: os, w, 0, o, h => by
  have e : x = o := by simpa using h
  subst e
  exact allocs_keep os (w.alloc x) _ x (heap_alloc_new w x)
 | x :: os, w, k + 1, o, h => by
  have := allocs_get os (w.alloc x) k o (by simpa using h)
  rw [World.size_alloc, show w.heap.size + 1 + k = w.heap.size + (k + 1) by omega] at this
  exact this
theorem allocs_below : ∀ (os : List Obj) (w : World), Below w.heap.size w (allocs w os) ∧ w.heap.size ≤ (allocs w os).heap.size
 | [], w => ⟨Below.refl _ _, Nat.le_refl _⟩
 | o :: os, w => by
  have h := allocs_below os (w.alloc o)
  have h1 := below_alloc w o
  have h2 : w.heap.size ≤ (w.alloc o).heap.size := h1.size
  exact ⟨h1.trans (h.1.mono h2), Nat.le_trans h2 h.2⟩
theorem allocs_cell (w : World) (os : List Obj) (b i : Nat) {cs : Array Value} {t : TypeId} {v : Value} (h : os[b]? = some (.cells cs t (0, 0))) (hv : cs[i]? = some v) : (allocs w os).cell? ⟨w.heap.size + b, i, none⟩ = some v := cells_row _ _ (allocs_get os w b _ h) i v hv
theorem allocs_one (w : World) (os : List Obj) (b : Nat) {x : Int} {t : TypeId} (h : os[b]? = some (.cells #[.int .i64 x] t (0, 0))) : Has (allocs w os) (.slice (some ⟨w.heap.size + b, 0, none⟩) 1 1) (ivs [x]) :=
 .inr ⟨by simp, _, 0, 1, rfl, Nat.le_refl _, block_lt (allocs_get os w b _ h), rfl, fun k hk => by
  match k, hk with
  | 0, _ => exact allocs_cell w os b 0 h rfl⟩
end Go.Proofs.YtaholpfikcdhbaaGreat

/- Find and Check, as the reference does them. -/
namespace Go.Proofs.YtaholpfikcdhbaaGreat
open Go.RowKit
def WrongRet (x : Int) (w : World) (e : Ending) (w' : World) : Prop := (∃ k it en : Int, e = .returned (.agg #[.int .i64 x, .int .u8 k, .int .i64 it, .int .i64 en])) ∧ Below w.heap.size w w'
def manyR (g : GGraph) : Int := if 32 < g.actors.length then 81 else if 96 < g.edges.length then 81 else if 16 < g.ins.length then 81 else if 16 < g.outs.length then 81 else 0
theorem wrong_set {w : World} {Z : Nat} {a b c d z0 z1 z2 z3 : Value} (h : w.heap[Z]? = some (.cells #[z0, z1, z2, z3] 160 (0, 0))) : ((((w.setCell ⟨Z, 0, none⟩ a).setCell ⟨Z, 1, none⟩ b).setCell ⟨Z, 2, none⟩ c).setCell ⟨Z, 3, none⟩ d).heap[Z]? = some (.cells #[a, b, c, d] 160 (0, 0)) :=
 block_setCell (block_setCell (block_setCell (block_setCell h 0 a) 1 b) 2 c) 3 d
theorem wrong_below {w w1 : World} {Z : Nat} (h : Below w.heap.size w w1) (hZ : w.heap.size ≤ Z) (a b c d : Value) : Below w.heap.size w ((((w1.setCell ⟨Z, 0, none⟩ a).setCell ⟨Z, 1, none⟩ b).setCell ⟨Z, 2, none⟩ c).setCell ⟨Z, 3, none⟩ d) :=
 h.trans (Mods.below (((((Mods.refl (fun k => k = Z) w1).setCell (p := ⟨Z, 0, none⟩) (fun _ => rfl) a).setCell (p := ⟨Z, 1, none⟩) (fun _ => rfl) b).setCell (p := ⟨Z, 2, none⟩) (fun _ => rfl) c).setCell (p := ⟨Z, 3, none⟩) (fun _ => rfl) d) h.size (fun k hk e => by omega))
theorem actorsR_step {g : GGraph} {j : Nat} (h : j < g.actors.length) : actorsR g j (g.actors.drop j) = if actorR g j g.actors[j] ≠ 0 then actorR g j g.actors[j] else actorsR g (j + 1) (g.actors.drop (j + 1)) := by rw [List.drop_eq_getElem_cons h, actorsR]
theorem edgesR_step {g : GGraph} {j : Nat} (h : j < g.edges.length) : edgesR g j (g.edges.drop j) = if edgeR g j g.edges[j] ≠ 0 then edgeR g j g.edges[j] else edgesR g (j + 1) (g.edges.drop (j + 1)) := by rw [List.drop_eq_getElem_cons h, edgesR]
theorem insR_step {g : GGraph} {j : Nat} (h : j < g.ins.length) : insR g j (g.ins.drop j) = if inR g j g.ins[j] ≠ 0 then inR g j g.ins[j] else insR g (j + 1) (g.ins.drop (j + 1)) := by rw [List.drop_eq_getElem_cons h, insR]
theorem outsR_step {g : GGraph} {j : Nat} (h : j < g.outs.length) : outsR g j (g.outs.drop j) = if outR g j g.outs[j] ≠ 0 then outR g j g.outs[j] else outsR g (j + 1) (g.outs.drop (j + 1)) := by rw [List.drop_eq_getElem_cons h, outsR]
theorem head_many {g : GGraph} (h1 : nameP g.name = true) (h2 : ¬ g.actors.length = 0) : headE g = manyR g := by
 unfold headE manyR
 rw [h1]
 simp only [Bool.not_true, Bool.false_eq_true, if_false]
 rw [if_neg h2]
theorem many_few {g : GGraph} (h : manyR g = 0) : g.actors.length ≤ 32 ∧ g.edges.length ≤ 96 ∧ g.ins.length ≤ 16 ∧ g.outs.length ≤ 16 := by
 unfold manyR at h
 split at h
 ·
  cases h
 split at h
 ·
  cases h
 split at h
 ·
  cases h
 split at h
 ·
  cases h
 omega
structure FindK (w w' : World) (gv : Array Value) : Prop where
 below : Below w.heap.size w w'
 box : w'.heap[w.heap.size]? = some (.cells gv 26 (0, 0))
 res : w'.heap[w.heap.size + 1]? = some (.cells #[.int .i64 0, .int .u8 0, .int .i64 0, .int .i64 0] 160 (0, 0))
theorem FindK.later {w w1 w2 : World} {gv : Array Value} (h : FindK w w1 gv) (hb : Below w1.heap.size w1 w2) : FindK w w2 gv :=
 ⟨h.below.trans (hb.mono h.below.size), (hb.block _ (block_lt h.box)).trans h.box, (hb.block _ (block_lt h.res)).trans h.res⟩
set_option maxRecDepth 100000 in
set_option maxHeartbeats 2000000 in
theorem many_any (w : World) (v : Value) (g : GGraph) (h : HasGraph w v g) : Calls Tryz.prog 85 #[v] w (WrongRet (manyR g) w) := by
 obtain ⟨va, ve, vi, vo, rfl, ra, re, ri, ro⟩ := h.shape
 obtain ⟨aa, ac, rfl⟩ := ra.slice
 obtain ⟨ae, ec, rfl⟩ := re.slice
 obtain ⟨ai, ic, rfl⟩ := ri.slice
 obtain ⟨ao, oc, rfl⟩ := ro.slice
 have HG := Lib.hid h
 have HRA := Lib.hid ra
 have HRE := Lib.hid re
 have HRI := Lib.hid ri
 have HRO := Lib.hid ro
 have hb := below_alloc w (.cells #[.string g.name, .slice aa g.actors.length ac, .slice ae g.edges.length ec, .slice ai g.ins.length ic, .slice ao g.outs.length oc] 26)
 have HB := Lib.hid hb
 have hX := heap_alloc_new w (.cells #[.string g.name, .slice aa g.actors.length ac, .slice ae g.edges.length ec, .slice ai g.ins.length ic, .slice ao g.outs.length oc] 26)
 have HXB := Lib.hid hX
 have x0 := cells_row _ _ hX 0 _ rfl
 have x1 := cells_row _ _ hX 1 _ rfl
 have x2 := cells_row _ _ hX 2 _ rfl
 have x3 := cells_row _ _ hX 3 _ rfl
 have x4 := cells_row _ _ hX 4 _ rfl
 clear h ra re ri ro hb hX
 obtain ⟨N, hN⟩ : ∃ N, manyR g = N := ⟨_, rfl⟩
 rw [hN]
 unfold manyR at hN
 have HN := Lib.hid hN
 clear hN
 by_cases hactors : 32 < g.actors.length
 ·
  have e : N = 81 := by rw [← HN.out, if_pos hactors]
  have hactorsi : (32 : Int) < g.actors.length := by omega
  subst e
  clear hactors
  go_enter Tryz.func85, Tryz.ntmps85
  go_wp2
  refine bodyPost_ret_by (results_cell_row rfl _ _ _ _ _ _ _ rfl (allocs_get [.cells #[.string g.name, .slice aa g.actors.length ac, .slice ae g.edges.length ec, .slice ai g.ins.length ic, .slice ao g.outs.length oc] 26, .cells #[.int .i64 81, .int .u8 1, .int .i64 32, .int .i64 0] 160] w 1 _ rfl) Tryz.underlying160 rfl (by kernel_rfl)) rfl ?_
  exact ⟨⟨_, _, _, rfl⟩, (allocs_below [_, _] w).1⟩
 have hactorsi : ¬ (32 : Int) < g.actors.length := by omega
 by_cases hedges : 96 < g.edges.length
 ·
  have e : N = 81 := by rw [← HN.out, if_neg hactors, if_pos hedges]
  have hedgesi : (96 : Int) < g.edges.length := by omega
  subst e
  clear hactors hedges
  go_enter Tryz.func85, Tryz.ntmps85
  go_wp2
  refine bodyPost_ret_by (results_cell_row rfl _ _ _ _ _ _ _ rfl (allocs_get [.cells #[.string g.name, .slice aa g.actors.length ac, .slice ae g.edges.length ec, .slice ai g.ins.length ic, .slice ao g.outs.length oc] 26, .cells #[.int .i64 81, .int .u8 2, .int .i64 96, .int .i64 0] 160] w 1 _ rfl) Tryz.underlying160 rfl (by kernel_rfl)) rfl ?_
  exact ⟨⟨_, _, _, rfl⟩, (allocs_below [_, _] w).1⟩
 have hedgesi : ¬ (96 : Int) < g.edges.length := by omega
 by_cases hins : 16 < g.ins.length
 ·
  have e : N = 81 := by rw [← HN.out, if_neg hactors, if_neg hedges, if_pos hins]
  have hinsi : (16 : Int) < g.ins.length := by omega
  subst e
  clear hactors hedges hins
  go_enter Tryz.func85, Tryz.ntmps85
  go_wp2
  refine bodyPost_ret_by (results_cell_row rfl _ _ _ _ _ _ _ rfl (allocs_get [.cells #[.string g.name, .slice aa g.actors.length ac, .slice ae g.edges.length ec, .slice ai g.ins.length ic, .slice ao g.outs.length oc] 26, .cells #[.int .i64 81, .int .u8 3, .int .i64 16, .int .i64 0] 160] w 1 _ rfl) Tryz.underlying160 rfl (by kernel_rfl)) rfl ?_
  exact ⟨⟨_, _, _, rfl⟩, (allocs_below [_, _] w).1⟩
 have hinsi : ¬ (16 : Int) < g.ins.length := by omega
 by_cases houts : 16 < g.outs.length
 ·
  have e : N = 81 := by rw [← HN.out, if_neg hactors, if_neg hedges, if_neg hins, if_pos houts]
  have houtsi : (16 : Int) < g.outs.length := by omega
  subst e
  clear hactors hedges hins houts
  go_enter Tryz.func85, Tryz.ntmps85
  go_wp2
  refine bodyPost_ret_by (results_cell_row rfl _ _ _ _ _ _ _ rfl (allocs_get [.cells #[.string g.name, .slice aa g.actors.length ac, .slice ae g.edges.length ec, .slice ai g.ins.length ic, .slice ao g.outs.length oc] 26, .cells #[.int .i64 81, .int .u8 4, .int .i64 16, .int .i64 0] 160] w 1 _ rfl) Tryz.underlying160 rfl (by kernel_rfl)) rfl ?_
  exact ⟨⟨_, _, _, rfl⟩, (allocs_below [_, _] w).1⟩
 have houtsi : ¬ (16 : Int) < g.outs.length := by omega
 have e : N = 0 := by rw [← HN.out, if_neg hactors, if_neg hedges, if_neg hins, if_neg houts]
 subst e
 clear hactors hedges hins houts
 go_enter Tryz.func85, Tryz.ntmps85
 go_wp2
 refine bodyPost_ret_by (results_cell_row rfl _ _ _ _ _ _ _ rfl (allocs_get [.cells #[.string g.name, .slice aa g.actors.length ac, .slice ae g.edges.length ec, .slice ai g.ins.length ic, .slice ao g.outs.length oc] 26, .cells #[.int .i64 0, .int .u8 0, .int .i64 0, .int .i64 0] 160] w 1 _ rfl) Tryz.underlying160 rfl (by kernel_rfl)) rfl ?_
 exact ⟨⟨_, _, _, rfl⟩, (allocs_below [_, _] w).1⟩
/- $1: the world's facts -/
set_option maxRecDepth 100000 in
set_option maxHeartbeats 4000000 in
theorem xfind_any (w : World) (v : Value) (g : GGraph) (h : HasGraph w v g) (hs : GSized g) : Calls Tryz.prog 67 #[v] w (WrongRet (refE g) w) := by
 obtain ⟨va, ve, vi, vo, rfl, ra, re, ri, ro⟩ := h.shape
 obtain ⟨aa, ac, rfl⟩ := ra.slice
 obtain ⟨ae, ec, rfl⟩ := re.slice
 obtain ⟨ai, ic, rfl⟩ := ri.slice
 obtain ⟨ao, oc, rfl⟩ := ro.slice
 have HG := Lib.hid h
 have HSZ := Lib.hid hs
 clear ra re ri ro h hs
 have hb1 := below_alloc w (.cells #[.string g.name, .slice aa g.actors.length ac, .slice ae g.edges.length ec, .slice ai g.ins.length ic, .slice ao g.outs.length oc] 26)
 have hX := heap_alloc_new w (.cells #[.string g.name, .slice aa g.actors.length ac, .slice ae g.edges.length ec, .slice ai g.ins.length ic, .slice ao g.outs.length oc] 26)
 have hsz : (w.alloc (.cells #[.string g.name, .slice aa g.actors.length ac, .slice ae g.edges.length ec, .slice ai g.ins.length ic, .slice ao g.outs.length oc] 26)).heap.size = w.heap.size + 1 := by simp
 have hb2 := below_alloc (w.alloc (.cells #[.string g.name, .slice aa g.actors.length ac, .slice ae g.edges.length ec, .slice ai g.ins.length ic, .slice ao g.outs.length oc] 26)) (.cells #[.int .i64 0, .int .u8 0, .int .i64 0, .int .i64 0] 160)
 have hZ := heap_alloc_new (w.alloc (.cells #[.string g.name, .slice aa g.actors.length ac, .slice ae g.edges.length ec, .slice ai g.ins.length ic, .slice ao g.outs.length oc] 26)) (.cells #[.int .i64 0, .int .u8 0, .int .i64 0, .int .i64 0] 160)
 rw [hsz] at hZ
 have HF := Lib.hid (FindK.mk (hb1.trans (hb2.mono hb1.size)) ((hb2.block _ (block_lt hX)).trans hX) hZ)
 obtain ⟨w2, hw2⟩ : ∃ x, (w.alloc (.cells #[.string g.name, .slice aa g.actors.length ac, .slice ae g.edges.length ec, .slice ai g.ins.length ic, .slice ao g.outs.length oc] 26)).alloc (.cells #[.int .i64 0, .int .u8 0, .int .i64 0, .int .i64 0] 160) = x := ⟨_, rfl⟩
 rw [hw2] at HF
 have HW2 := Lib.hid hw2
 clear hb1 hX hsz hb2 hZ hw2
 have hEq := HW2.out
 obtain ⟨N, hN⟩ : ∃ N, refE g = N := ⟨_, rfl⟩
 rw [hN]
 unfold refE at hN
 have HN := Lib.hid hN
 clear hN
 obtain ⟨E, hE⟩ : ∃ E, nameP g.name = E := ⟨_, rfl⟩
 have HE := Lib.hid hE
 clear hE hEq
 go_enter Tryz.func67, Tryz.ntmps67
 go_wp2_with fail
 rw [HW2.out]
 refine (xname_any _ _ HSZ.out.1).mono ?_
 rintro e _ ⟨rfl, rfl⟩
 rw [HE.out]
 cases E with
 | false =>
  have e : N = 82 := by
   have hh : headE g = 82 := by unfold headE; rw [HE.out]; rfl
   rw [← HN.out, hh]
   rfl
  subst e
  have z0 := cells_row _ _ HF.out.res 0 _ rfl
  have z1 := cells_row _ _ HF.out.res 1 _ rfl
  have z2 := cells_row _ _ HF.out.res 2 _ rfl
  have z3 := cells_row _ _ HF.out.res 3 _ rfl
  have f0 := frozen_of_block HF.out.res 0
  have f1 := frozen_of_block HF.out.res 1
  have f2 := frozen_of_block HF.out.res 2
  have f3 := frozen_of_block HF.out.res 3
  go_wp2
  refine bodyPost_ret_by (results_cell_row rfl _ _ _ _ _ _ _ rfl (wrong_set HF.out.res) Tryz.underlying160 rfl (by kernel_rfl)) rfl ?_
  exact ⟨⟨_, _, _, rfl⟩, wrong_below HF.out.below (Nat.le_succ _) _ _ _ _⟩
 | true =>
  by_cases h0 : g.actors.length = 0
  ·
   have e : N = 80 := by
    have hh : headE g = 80 := by unfold headE; rw [HE.out]; simp only [Bool.not_true, Bool.false_eq_true, if_false]; rw [if_pos h0]
    rw [← HN.out, hh]
    rfl
   subst e
   have x1 := cells_row _ _ HF.out.box 1 _ rfl
   have h0i : ((g.actors.length : Int) == 0) = true := by rw [beq_iff_eq]; omega
   clear h0
   have z0 := cells_row _ _ HF.out.res 0 _ rfl
   have z1 := cells_row _ _ HF.out.res 1 _ rfl
   have z2 := cells_row _ _ HF.out.res 2 _ rfl
   have z3 := cells_row _ _ HF.out.res 3 _ rfl
   have f0 := frozen_of_block HF.out.res 0
   have f1 := frozen_of_block HF.out.res 1
   have f2 := frozen_of_block HF.out.res 2
   have f3 := frozen_of_block HF.out.res 3
   go_wp2
   refine bodyPost_ret_by (results_cell_row rfl _ _ _ _ _ _ _ rfl (wrong_set HF.out.res) Tryz.underlying160 rfl (by kernel_rfl)) rfl ?_
   exact ⟨⟨_, _, _, rfl⟩, wrong_below HF.out.below (Nat.le_succ _) _ _ _ _⟩
  have h0i : ((g.actors.length : Int) == 0) = false := by rw [beq_eq_false_iff_ne]; omega
  have hh := head_many HE.out h0
  have HH := Lib.hid hh
  clear h0 hh
  have x0 := cells_row _ _ HF.out.box 0 _ rfl
  have x1 := cells_row _ _ HF.out.box 1 _ rfl
  have x2 := cells_row _ _ HF.out.box 2 _ rfl
  have x3 := cells_row _ _ HF.out.box 3 _ rfl
  have x4 := cells_row _ _ HF.out.box 4 _ rfl
  go_wp2_with fail
  refine (many_any _ _ g (HG.out.below HF.out.below)).mono ?_
  rintro e w3 ⟨⟨kd, it, en, rfl⟩, hb3⟩
  obtain ⟨M, hM⟩ : ∃ M, manyR g = M := ⟨_, rfl⟩
  rw [hM]
  have HM := Lib.hid hM
  have HF3 := Lib.hid ((HF.out.later hb3).later (below_alloc w3 (.cells #[.int .i64 M, .int .u8 kd, .int .i64 it, .int .i64 en] 160)))
  clear hM hb3 x0 x1 x2 x3 x4
  by_cases hM0 : M = 0
  ·
   subst hM0
   have hfew := many_few HM.out
   have HFEW := Lib.hid hfew
   have hN2 : (if actorsR g 0 g.actors ≠ 0 then actorsR g 0 g.actors else if edgesR g 0 g.edges ≠ 0 then edgesR g 0 g.edges else if insR g 0 g.ins ≠ 0 then insR g 0 g.ins else if outsR g 0 g.outs ≠ 0 then outsR g 0 g.outs else openR g) = N := by
    rw [← HN.out, HH.out, HM.out]
    exact (if_neg (fun h => h rfl)).symm
   have HN2 := Lib.hid hN2
   clear hfew hN2 HN
   go_wp2_with fail
   obtain ⟨w4, hw4⟩ : ∃ x, w3.alloc (.cells #[.int .i64 0, .int .u8 kd, .int .i64 it, .int .i64 en] 160) = x := ⟨_, rfl⟩
   rw [hw4] at HF3 ⊢
   clear hw4
   obtain ⟨EA, hEA⟩ : ∃ x, actorsR g 0 g.actors = x := ⟨_, rfl⟩
   have HEA := Lib.hid hEA
   go_loopw [4] (fun x wl => ∃ j : Nat, j ≤ g.actors.length ∧ x = .int .i64 j ∧ FindK w wl #[.string g.name, .slice aa g.actors.length ac, .slice ae g.edges.length ec, .slice ai g.ins.length ic, .slice ao g.outs.length oc] ∧ actorsR g j (g.actors.drop j) = EA) (fun x _ => g.actors.length - (intOf x).toNat)
   case atStart => exact ⟨0, Nat.zero_le _, rfl, HF3.out, hEA⟩
   case round =>
    clear hEA
    obtain ⟨j, hj, rfl, hK, hr⟩ := hrel
    have HK := Lib.hid hK
    have HRR := Lib.hid hr
    clear hK hr
    have hlm : g.actors.length ≤ 96 := by have := HFEW.out; omega
    have x0 := cells_row _ _ HK.out.box 0 _ rfl
    have x1 := cells_row _ _ HK.out.box 1 _ rfl
    have x2 := cells_row _ _ HK.out.box 2 _ rfl
    have x3 := cells_row _ _ HK.out.box 3 _ rfl
    have x4 := cells_row _ _ HK.out.box 4 _ rfl
    by_cases hlt : j < g.actors.length
    ·
     have hlti : (j : Int) < g.actors.length := by omega
     go_wp2_with fail
     refine (xactor_any _ _ g j (HG.out.below HK.out.below) HSZ.out hlt (by omega)).mono ?_
     rintro e w5 ⟨rfl, hb5⟩
     have hst := HRR.out
     rw [actorsR_step hlt] at hst
     obtain ⟨e5, he5⟩ : ∃ x, actorR g j g.actors[j] = x := ⟨_, rfl⟩
     rw [he5] at hst ⊢
     have HK5 := Lib.hid (HK.out.later hb5)
     clear hb5 he5 x0 x1 x2 x3 x4
     by_cases hz : e5 = 0
     ·
      subst hz
      rw [if_neg (fun h => h rfl)] at hst
      have HST := Lib.hid hst
      clear hst
      go_wp2
      go_roundw
      case rel => exact ⟨j + 1, hlt, by go_num, HK5.out, HST.out⟩
      case measure => simp [intOf]; omega
     ·
      rw [if_pos hz] at hst
      have e : e5 = N := by
       rw [hst]
       have hne : EA ≠ 0 := by rw [← hst]; exact hz
       rw [← HN2.out, HEA.out, if_pos hne]
      have hb : (e5 != 0) = true := by rw [bne_iff_ne]; exact hz
      subst e
      clear hz hst
      have z0 := cells_row _ _ HK5.out.res 0 _ rfl
      have z1 := cells_row _ _ HK5.out.res 1 _ rfl
      have z2 := cells_row _ _ HK5.out.res 2 _ rfl
      have z3 := cells_row _ _ HK5.out.res 3 _ rfl
      have f0 := frozen_of_block HK5.out.res 0
      have f1 := frozen_of_block HK5.out.res 1
      have f2 := frozen_of_block HK5.out.res 2
      have f3 := frozen_of_block HK5.out.res 3
      go_wp2
      refine bodyPost_ret_by (results_cell_row rfl _ _ _ _ _ _ _ rfl (wrong_set HK5.out.res) Tryz.underlying160 rfl (by kernel_rfl)) rfl ?_
      exact ⟨⟨_, _, _, rfl⟩, wrong_below HK5.out.below (Nat.le_succ _) _ _ _ _⟩
    ·
     obtain rfl : j = g.actors.length := by omega
     have hlti : ¬ ((g.actors.length : Int) < g.actors.length) := by omega
     have hz : EA = 0 := by
      have := HRR.out
      rw [List.drop_length] at this
      exact this.symm
     have HZEA := Lib.hid hz
     clear hlt hj hz
     have hgd : actorG g := actorsR_good _ 0 (by rw [HEA.out]; exact HZEA.out)
     have HGD := Lib.hid hgd
     clear hgd
     go_wp2_with fail
     obtain ⟨EE, hEE⟩ : ∃ x, edgesR g 0 g.edges = x := ⟨_, rfl⟩
     have HEE := Lib.hid hEE
     go_loopw [6] (fun x wl => ∃ j : Nat, j ≤ g.edges.length ∧ x = .int .i64 j ∧ FindK w wl #[.string g.name, .slice aa g.actors.length ac, .slice ae g.edges.length ec, .slice ai g.ins.length ic, .slice ao g.outs.length oc] ∧ edgesR g j (g.edges.drop j) = EE) (fun x _ => g.edges.length - (intOf x).toNat)
     case atStart => exact ⟨0, Nat.zero_le _, rfl, HK.out, hEE⟩
     case round =>
      clear hEE
      obtain ⟨j, hj, rfl, hK, hr⟩ := hrel
      have HK := Lib.hid hK
      have HRR := Lib.hid hr
      clear hK hr
      have hlm : g.edges.length ≤ 96 := by have := HFEW.out; omega
      have x0 := cells_row _ _ HK.out.box 0 _ rfl
      have x1 := cells_row _ _ HK.out.box 1 _ rfl
      have x2 := cells_row _ _ HK.out.box 2 _ rfl
      have x3 := cells_row _ _ HK.out.box 3 _ rfl
      have x4 := cells_row _ _ HK.out.box 4 _ rfl
      by_cases hlt : j < g.edges.length
      ·
       have hlti : (j : Int) < g.edges.length := by omega
       go_wp2_with fail
       refine (xedge_any _ _ g j (HG.out.below HK.out.below) HGD.out hlt (by omega)).mono ?_
       rintro e w5 ⟨kk, rfl, hb5⟩
       have hst := HRR.out
       rw [edgesR_step hlt] at hst
       obtain ⟨e5, he5⟩ : ∃ x, edgeR g j g.edges[j] = x := ⟨_, rfl⟩
       rw [he5] at hst ⊢
       have HK5 := Lib.hid (HK.out.later hb5)
       clear hb5 he5 x0 x1 x2 x3 x4
       by_cases hz : e5 = 0
       ·
        subst hz
        rw [if_neg (fun h => h rfl)] at hst
        have HST := Lib.hid hst
        clear hst
        go_wp2
        go_roundw
        case rel => exact ⟨j + 1, hlt, by go_num, HK5.out, HST.out⟩
        case measure => simp [intOf]; omega
       ·
        rw [if_pos hz] at hst
        have e : e5 = N := by
         rw [hst]
         have hne : EE ≠ 0 := by rw [← hst]; exact hz
         rw [← HN2.out, HEE.out, HEA.out, HZEA.out, if_neg (fun h => h rfl), if_pos hne]
        have hb : (e5 != 0) = true := by rw [bne_iff_ne]; exact hz
        subst e
        clear hz hst
        have z0 := cells_row _ _ HK5.out.res 0 _ rfl
        have z1 := cells_row _ _ HK5.out.res 1 _ rfl
        have z2 := cells_row _ _ HK5.out.res 2 _ rfl
        have z3 := cells_row _ _ HK5.out.res 3 _ rfl
        have f0 := frozen_of_block HK5.out.res 0
        have f1 := frozen_of_block HK5.out.res 1
        have f2 := frozen_of_block HK5.out.res 2
        have f3 := frozen_of_block HK5.out.res 3
        go_wp2
        refine bodyPost_ret_by (results_cell_row rfl _ _ _ _ _ _ _ rfl (wrong_set HK5.out.res) Tryz.underlying160 rfl (by kernel_rfl)) rfl ?_
        exact ⟨⟨_, _, _, rfl⟩, wrong_below HK5.out.below (Nat.le_succ _) _ _ _ _⟩
      ·
       obtain rfl : j = g.edges.length := by omega
       have hlti : ¬ ((g.edges.length : Int) < g.edges.length) := by omega
       have hz : EE = 0 := by
        have := HRR.out
        rw [List.drop_length] at this
        exact this.symm
       have HZEE := Lib.hid hz
       clear hlt hj hz
       go_wp2_with fail
       obtain ⟨EI, hEI⟩ : ∃ x, insR g 0 g.ins = x := ⟨_, rfl⟩
       have HEI := Lib.hid hEI
       go_loopw [9] (fun x wl => ∃ j : Nat, j ≤ g.ins.length ∧ x = .int .i64 j ∧ FindK w wl #[.string g.name, .slice aa g.actors.length ac, .slice ae g.edges.length ec, .slice ai g.ins.length ic, .slice ao g.outs.length oc] ∧ insR g j (g.ins.drop j) = EI) (fun x _ => g.ins.length - (intOf x).toNat)
       case atStart => exact ⟨0, Nat.zero_le _, rfl, HK.out, hEI⟩
       case round =>
        clear hEI
        obtain ⟨j, hj, rfl, hK, hr⟩ := hrel
        have HK := Lib.hid hK
        have HRR := Lib.hid hr
        clear hK hr
        have hlm : g.ins.length ≤ 96 := by have := HFEW.out; omega
        have x0 := cells_row _ _ HK.out.box 0 _ rfl
        have x1 := cells_row _ _ HK.out.box 1 _ rfl
        have x2 := cells_row _ _ HK.out.box 2 _ rfl
        have x3 := cells_row _ _ HK.out.box 3 _ rfl
        have x4 := cells_row _ _ HK.out.box 4 _ rfl
        by_cases hlt : j < g.ins.length
        ·
         have hlti : (j : Int) < g.ins.length := by omega
         go_wp2_with fail
         refine (xin_any _ _ g j (HG.out.below HK.out.below) HSZ.out HGD.out hlt ⟨by have := HFEW.out; omega, by have := HFEW.out; omega, by have := HFEW.out; omega, by have := HFEW.out; omega⟩).mono ?_
         rintro e w5 ⟨kk, rfl, hb5⟩
         have hst := HRR.out
         rw [insR_step hlt] at hst
         obtain ⟨e5, he5⟩ : ∃ x, inR g j g.ins[j] = x := ⟨_, rfl⟩
         rw [he5] at hst ⊢
         have HK5 := Lib.hid (HK.out.later hb5)
         clear hb5 he5 x0 x1 x2 x3 x4
         by_cases hz : e5 = 0
         ·
          subst hz
          rw [if_neg (fun h => h rfl)] at hst
          have HST := Lib.hid hst
          clear hst
          go_wp2
          go_roundw
          case rel => exact ⟨j + 1, hlt, by go_num, HK5.out, HST.out⟩
          case measure => simp [intOf]; omega
         ·
          rw [if_pos hz] at hst
          have e : e5 = N := by
           rw [hst]
           have hne : EI ≠ 0 := by rw [← hst]; exact hz
           rw [← HN2.out, HEI.out, HEA.out, HZEA.out, if_neg (fun h => h rfl), HEE.out, HZEE.out, if_neg (fun h => h rfl), if_pos hne]
          have hb : (e5 != 0) = true := by rw [bne_iff_ne]; exact hz
          subst e
          clear hz hst
          have z0 := cells_row _ _ HK5.out.res 0 _ rfl
          have z1 := cells_row _ _ HK5.out.res 1 _ rfl
          have z2 := cells_row _ _ HK5.out.res 2 _ rfl
          have z3 := cells_row _ _ HK5.out.res 3 _ rfl
          have f0 := frozen_of_block HK5.out.res 0
          have f1 := frozen_of_block HK5.out.res 1
          have f2 := frozen_of_block HK5.out.res 2
          have f3 := frozen_of_block HK5.out.res 3
          go_wp2
          refine bodyPost_ret_by (results_cell_row rfl _ _ _ _ _ _ _ rfl (wrong_set HK5.out.res) Tryz.underlying160 rfl (by kernel_rfl)) rfl ?_
          exact ⟨⟨_, _, _, rfl⟩, wrong_below HK5.out.below (Nat.le_succ _) _ _ _ _⟩
        ·
         obtain rfl : j = g.ins.length := by omega
         have hlti : ¬ ((g.ins.length : Int) < g.ins.length) := by omega
         have hz : EI = 0 := by
          have := HRR.out
          rw [List.drop_length] at this
          exact this.symm
         have HZEI := Lib.hid hz
         clear hlt hj hz
         go_wp2_with fail
         obtain ⟨EO, hEO⟩ : ∃ x, outsR g 0 g.outs = x := ⟨_, rfl⟩
         have HEO := Lib.hid hEO
         go_loopw [12] (fun x wl => ∃ j : Nat, j ≤ g.outs.length ∧ x = .int .i64 j ∧ FindK w wl #[.string g.name, .slice aa g.actors.length ac, .slice ae g.edges.length ec, .slice ai g.ins.length ic, .slice ao g.outs.length oc] ∧ outsR g j (g.outs.drop j) = EO) (fun x _ => g.outs.length - (intOf x).toNat)
         case atStart => exact ⟨0, Nat.zero_le _, rfl, HK.out, hEO⟩
         case round =>
          clear hEO
          obtain ⟨j, hj, rfl, hK, hr⟩ := hrel
          have HK := Lib.hid hK
          have HRR := Lib.hid hr
          clear hK hr
          have hlm : g.outs.length ≤ 96 := by have := HFEW.out; omega
          have x0 := cells_row _ _ HK.out.box 0 _ rfl
          have x1 := cells_row _ _ HK.out.box 1 _ rfl
          have x2 := cells_row _ _ HK.out.box 2 _ rfl
          have x3 := cells_row _ _ HK.out.box 3 _ rfl
          have x4 := cells_row _ _ HK.out.box 4 _ rfl
          by_cases hlt : j < g.outs.length
          ·
           have hlti : (j : Int) < g.outs.length := by omega
           go_wp2_with fail
           refine (xout_any _ _ g j (HG.out.below HK.out.below) HSZ.out HGD.out hlt ⟨by have := HFEW.out; omega, by have := HFEW.out; omega, by have := HFEW.out; omega, by have := HFEW.out; omega⟩).mono ?_
           rintro e w5 ⟨kk, rfl, hb5⟩
           have hst := HRR.out
           rw [outsR_step hlt] at hst
           obtain ⟨e5, he5⟩ : ∃ x, outR g j g.outs[j] = x := ⟨_, rfl⟩
           rw [he5] at hst ⊢
           have HK5 := Lib.hid (HK.out.later hb5)
           clear hb5 he5 x0 x1 x2 x3 x4
           by_cases hz : e5 = 0
           ·
            subst hz
            rw [if_neg (fun h => h rfl)] at hst
            have HST := Lib.hid hst
            clear hst
            go_wp2
            go_roundw
            case rel => exact ⟨j + 1, hlt, by go_num, HK5.out, HST.out⟩
            case measure => simp [intOf]; omega
           ·
            rw [if_pos hz] at hst
            have e : e5 = N := by
             rw [hst]
             have hne : EO ≠ 0 := by rw [← hst]; exact hz
             rw [← HN2.out, HEO.out, HEA.out, HZEA.out, if_neg (fun h => h rfl), HEE.out, HZEE.out, if_neg (fun h => h rfl), HEI.out, HZEI.out, if_neg (fun h => h rfl), if_pos hne]
            have hb : (e5 != 0) = true := by rw [bne_iff_ne]; exact hz
            subst e
            clear hz hst
            have z0 := cells_row _ _ HK5.out.res 0 _ rfl
            have z1 := cells_row _ _ HK5.out.res 1 _ rfl
            have z2 := cells_row _ _ HK5.out.res 2 _ rfl
            have z3 := cells_row _ _ HK5.out.res 3 _ rfl
            have f0 := frozen_of_block HK5.out.res 0
            have f1 := frozen_of_block HK5.out.res 1
            have f2 := frozen_of_block HK5.out.res 2
            have f3 := frozen_of_block HK5.out.res 3
            go_wp2
            refine bodyPost_ret_by (results_cell_row rfl _ _ _ _ _ _ _ rfl (wrong_set HK5.out.res) Tryz.underlying160 rfl (by kernel_rfl)) rfl ?_
            exact ⟨⟨_, _, _, rfl⟩, wrong_below HK5.out.below (Nat.le_succ _) _ _ _ _⟩
          ·
           obtain rfl : j = g.outs.length := by omega
           have hlti : ¬ ((g.outs.length : Int) < g.outs.length) := by omega
           have hz : EO = 0 := by
            have := HRR.out
            rw [List.drop_length] at this
            exact this.symm
           have HZEO := Lib.hid hz
           clear hlt hj hz
           have hop : openR g = N := by
            rw [← HN2.out, HEA.out, HZEA.out, if_neg (fun h => h rfl), HEE.out, HZEE.out, if_neg (fun h => h rfl), HEI.out, HZEI.out, if_neg (fun h => h rfl), HEO.out, HZEO.out, if_neg (fun h => h rfl)]
           have HOP := Lib.hid hop
           clear hop
           go_wp2_with fail
           go_loopw [15] (fun x wl => ∃ j : Nat, j ≤ g.actors.length ∧ x = .int .i64 j ∧ FindK w wl #[.string g.name, .slice aa g.actors.length ac, .slice ae g.edges.length ec, .slice ai g.ins.length ic, .slice ao g.outs.length oc] ∧ ∀ k, k < j → openR1 g k = false) (fun x _ => g.actors.length - (intOf x).toNat)
           case atStart => exact ⟨0, Nat.zero_le _, rfl, HK.out, fun k hk => by omega⟩
           case round =>
            obtain ⟨j, hj, rfl, hK, hr⟩ := hrel
            have HKO := Lib.hid hK
            have HRO := Lib.hid hr
            clear hK hr
            have hlm : g.actors.length ≤ 96 := by have := HFEW.out; omega
            have x0 := cells_row _ _ HKO.out.box 0 _ rfl
            have x1 := cells_row _ _ HKO.out.box 1 _ rfl
            have x2 := cells_row _ _ HKO.out.box 2 _ rfl
            have x3 := cells_row _ _ HKO.out.box 3 _ rfl
            have x4 := cells_row _ _ HKO.out.box 4 _ rfl
            by_cases hlt : j < g.actors.length
            ·
             have hlti : (j : Int) < g.actors.length := by omega
             go_wp2_with fail
             refine (xopen_any _ _ g j (HG.out.below HKO.out.below) HGD.out hlt ⟨by have := HFEW.out; omega, by have := HFEW.out; omega, by have := HFEW.out; omega, by have := HFEW.out; omega⟩).mono ?_
             rintro e w5 ⟨rfl, hb5⟩
             obtain ⟨T, hT⟩ : ∃ x, openR1 g j = x := ⟨_, rfl⟩
             rw [hT]
             have HT := Lib.hid hT
             have HK5 := Lib.hid (HKO.out.later hb5)
             clear hb5 hT x0 x1 x2 x3 x4
             cases T with
             | false =>
              go_wp2
              go_roundw
              case rel => exact ⟨j + 1, hlt, by go_num, HK5.out, fun k hk => by
               by_cases e : k = j
               ·
                subst e; exact HT.out
               ·
                exact HRO.out k (by omega)⟩
              case measure => simp [intOf]; omega
             | true =>
              have e : N = 87 := by
               rw [← HOP.out]
               unfold openR
               rw [if_pos]
               exact List.any_eq_true.2 ⟨j, List.mem_range.2 hlt, HT.out⟩
              subst e
              have z0 := cells_row _ _ HK5.out.res 0 _ rfl
              have z1 := cells_row _ _ HK5.out.res 1 _ rfl
              have z2 := cells_row _ _ HK5.out.res 2 _ rfl
              have z3 := cells_row _ _ HK5.out.res 3 _ rfl
              have f0 := frozen_of_block HK5.out.res 0
              have f1 := frozen_of_block HK5.out.res 1
              have f2 := frozen_of_block HK5.out.res 2
              have f3 := frozen_of_block HK5.out.res 3
              go_wp2
              refine bodyPost_ret_by (results_cell_row rfl _ _ _ _ _ _ _ rfl (wrong_set HK5.out.res) Tryz.underlying160 rfl (by kernel_rfl)) rfl ?_
              exact ⟨⟨_, _, _, rfl⟩, wrong_below HK5.out.below (Nat.le_succ _) _ _ _ _⟩
            ·
             obtain rfl : j = g.actors.length := by omega
             have hlti : ¬ ((g.actors.length : Int) < g.actors.length) := by omega
             have e : N = 0 := by
              rw [← HOP.out]
              unfold openR
              rw [if_neg]
              intro h
              obtain ⟨k, hk, h2⟩ := List.any_eq_true.1 h
              rw [HRO.out k (List.mem_range.1 hk)] at h2
              cases h2
             subst e
             clear hlt hj
             have z0 := cells_row _ _ HKO.out.res 0 _ rfl
             have z1 := cells_row _ _ HKO.out.res 1 _ rfl
             have z2 := cells_row _ _ HKO.out.res 2 _ rfl
             have z3 := cells_row _ _ HKO.out.res 3 _ rfl
             have f0 := frozen_of_block HKO.out.res 0
             have f1 := frozen_of_block HKO.out.res 1
             have f2 := frozen_of_block HKO.out.res 2
             have f3 := frozen_of_block HKO.out.res 3
             go_wp2
             refine bodyPost_ret_by (results_cell_row rfl _ _ _ _ _ _ _ rfl (wrong_set HKO.out.res) Tryz.underlying160 rfl (by kernel_rfl)) rfl ?_
             exact ⟨⟨_, _, _, rfl⟩, wrong_below HKO.out.below (Nat.le_succ _) _ _ _ _⟩
  ·
   have e : M = N := by
    rw [← HN.out, HH.out, HM.out]
    exact (if_pos hM0).symm
   have hb : (M != 0) = true := by rw [bne_iff_ne]; exact hM0
   subst e
   clear hM0
   have z0 := cells_row _ _ HF3.out.res 0 _ rfl
   have z1 := cells_row _ _ HF3.out.res 1 _ rfl
   have z2 := cells_row _ _ HF3.out.res 2 _ rfl
   have z3 := cells_row _ _ HF3.out.res 3 _ rfl
   have f0 := frozen_of_block HF3.out.res 0
   have f1 := frozen_of_block HF3.out.res 1
   have f2 := frozen_of_block HF3.out.res 2
   have f3 := frozen_of_block HF3.out.res 3
   go_wp2
   refine bodyPost_ret_by (results_cell_row rfl _ _ _ _ _ _ _ rfl (wrong_set HF3.out.res) Tryz.underlying160 rfl (by kernel_rfl)) rfl ?_
   exact ⟨⟨_, _, _, rfl⟩, wrong_below HF3.out.below (Nat.le_succ _) _ _ _ _⟩
theorem field_code (x : Int) (b c d : Value) (w : World) : (Instr.field 160 (.agg #[.int .i64 x, b, c, d]) 0).run Tryz.prog w = .ok (.int .i64 x) w := by kernel_rfl
set_option maxRecDepth 100000 in
theorem xcheck_any (w : World) (v : Value) (g : GGraph) (h : HasGraph w v g) (hs : GSized g) : Calls Tryz.prog 47 #[v] w (Tells (.int .i64 (checkE g)) w) := by
 rw [← ref_graph]
 obtain ⟨va, ve, vi, vo, rfl, _⟩ := h.shape
 have hb := below_alloc w (.cells #[.string g.name, va, ve, vi, vo] 26)
 have hX := heap_alloc_new w (.cells #[.string g.name, va, ve, vi, vo] 26)
 have x0 := cells_row _ _ hX 0 _ rfl
 have x1 := cells_row _ _ hX 1 _ rfl
 have x2 := cells_row _ _ hX 2 _ rfl
 have x3 := cells_row _ _ hX 3 _ rfl
 have x4 := cells_row _ _ hX 4 _ rfl
 have HF := Lib.hid (xfind_any _ _ g (h.below hb) hs)
 have HB := Lib.hid hb
 obtain ⟨N, hN⟩ : ∃ N, refE g = N := ⟨_, rfl⟩
 rw [hN] at HF ⊢
 clear h hs hb hX hN
 go_enter Tryz.func47, Tryz.ntmps47
 go_wp2_with fail
 refine HF.out.mono ?_
 rintro e w2 ⟨⟨k, it, en, rfl⟩, hb2⟩
 have HB2 := Lib.hid (HB.out.trans (hb2.mono HB.out.size))
 clear hb2
 have hfc := field_code N (.int .u8 k) (.int .i64 it) (.int .i64 en) w2
 go_wp2
 go_ret
 exact ⟨rfl, HB2.out⟩
end Go.Proofs.YtaholpfikcdhbaaGreat

/- The reference's New. -/
namespace Go.Proofs.YtaholpfikcdhbaaGreat
open Go.RowKit
theorem results_row_tmp {P : Program} {fn : Func} {p u : Tmp} {ty : TypeId} (h : fn.results = #[.cell p ty, .tmp u]) (tmps : Array Value) (w : World) (g : Nat) (t : TypeId) (cs : Array Value) (fr : Nat × Nat) (d : TypeDesc)
  (hp : tmps.getD p undef = .pointer (some ⟨g, 0, none⟩)) (hg : w.heap[g]? = some (.cells cs t fr))
  (hu : P.underlying ty = some d) (hd : (match d with | .struct _ | .array _ _ => true | _ => false) = true) (hi : (P.info? ty).map (·.size) = some cs.size) :
  (results fn tmps).run P w = .ok (.tuple #[.agg cs, tmps.getD u undef]) w := by
 rw [results_cell_tmp h, hp]
 simp [asAddr, run_loadVar_row w g t ty cs fr d hg hu hd hi, Result.andThen]
end Go.Proofs.YtaholpfikcdhbaaGreat

/- The reference's New, where the parameters may be. -/
namespace Go.Proofs.YtaholpfikcdhbaaGreat
open Go.RowKit
def RefNew (w : World) (t : Int) (ps : List Int) (e : Ending) (w' : World) : Prop :=
 ∃ vp vi vo vk, e = .returned (.tuple #[.agg #[.int .u8 t, vp, vi, vo, vk, .int .i64 0], .int .i64 0]) ∧ w'.ownsRow w.heap.size 3 1 vp ps.length (ivs ps) ∧ w'.ownsRow w.heap.size 3 1 vi (insP t ps).length (ivs (insP t ps)) ∧
  w'.ownsRow w.heap.size 3 1 vo (outsP t ps).length (ivs (outsP t ps)) ∧ w'.ownsRow w.heap.size 3 1 vk (keep0 t ps).length (ivs (keep0 t ps)) ∧ Below w.heap.size w w'
def six (w : World) (g : Nat) (a b c d e f : Value) : World := (((((w.setCell ⟨g, 0, none⟩ a).setCell ⟨g, 1, none⟩ b).setCell ⟨g, 2, none⟩ c).setCell ⟨g, 3, none⟩ d).setCell ⟨g, 4, none⟩ e).setCell ⟨g, 5, none⟩ f
theorem six_mods {w0 w : World} {g : Nat} {a b c d e f : Value} {F : Nat → Prop} (h : Mods F w0 w) (hg : F g) : Mods F w0 (six w g a b c d e f) :=
 (((((h.setCell (p := ⟨g, 0, none⟩) (fun _ => hg) a).setCell (p := ⟨g, 1, none⟩) (fun _ => hg) b).setCell (p := ⟨g, 2, none⟩) (fun _ => hg) c).setCell (p := ⟨g, 3, none⟩) (fun _ => hg) d).setCell (p := ⟨g, 4, none⟩) (fun _ => hg) e).setCell (p := ⟨g, 5, none⟩) (fun _ => hg) f
theorem refnew_fin {w w1 w2 W : World} {t : Int} {ps : List Int} {vi vo vp vk : Value} {a b c d e f : Value} (sw : w.heap.size + 1 ≤ w1.heap.size) (hb : Below w.heap.size w w1) (hb2 : Below w1.heap.size w1 w2) (hW : Below w2.heap.size w2 W)
  (o1 : w1.ownsRow (w.heap.size + 1) 3 1 vi (insP t ps).length (ivs (insP t ps))) (o2 : w1.ownsRow (w.heap.size + 1) 3 1 vo (outsP t ps).length (ivs (outsP t ps)))
  (o3 : w2.ownsRow w1.heap.size 3 1 vp ps.length (ivs ps)) (o4 : W.ownsRow w2.heap.size 3 1 vk (keep0 t ps).length (ivs (keep0 t ps))) :
  RefNew w t ps (.returned (.tuple #[.agg #[.int .u8 t, vp, vi, vo, vk, .int .i64 0], .int .i64 0])) (six W w.heap.size a b c d e f) := by
 have s2 := hb2.size
 have M1 : Mods (fun k => k = w.heap.size) w1 (six W w.heap.size a b c d e f) := six_mods (Mods.of_below (hb2.trans (hW.mono s2)) _) rfl
 have M2 : Mods (fun k => k = w.heap.size) w2 (six W w.heap.size a b c d e f) := six_mods (Mods.of_below hW _) rfl
 have M3 : Mods (fun k => k = w.heap.size) W (six W w.heap.size a b c d e f) := six_mods (Mods.refl _ _) rfl
 have M0 : Mods (fun k => k = w.heap.size) w (six W w.heap.size a b c d e f) := six_mods (Mods.of_below (hb.trans ((hb2.trans (hW.mono s2)).mono hb.size)) _) rfl
 exact ⟨vp, vi, vo, vk, rfl, owns_base (owns_kept o3 M2 (fun k hk e => by have := (o3.lt k hk).1; omega)) (fun k hk => by have := (o3.lt k hk).1; omega),
  owns_base (owns_kept o1 M1 (fun k hk e => by have := (o1.lt k hk).1; omega)) (fun k hk => by have := (o1.lt k hk).1; omega),
  owns_base (owns_kept o2 M1 (fun k hk e => by have := (o2.lt k hk).1; omega)) (fun k hk => by have := (o2.lt k hk).1; omega),
  owns_base (owns_kept o4 M3 (fun k hk e => by have := (o4.lt k hk).1; omega)) (fun k hk => by have := (o4.lt k hk).1; omega),
  M0.below (Nat.le_refl _) (fun k hk e => by omega)⟩
set_option maxRecDepth 100000 in
set_option maxHeartbeats 1000000 in
theorem rnew_else {o : Col} {c : Nat} (w : World) (t : Int) (ao : Option Addr) (n cap : Nat) (ps : List Int) (hg : goodP t ps) (h : Ints w o c (.slice ao n cap) ps) (t1 : ¬ t = 1) (t8 : ¬ t = 8) (t10 : ¬ t = 10) : Calls Tryz.prog 49 #[.int .u8 t, .slice ao n cap] w (RefNew w t ps) := by
 have HH := Lib.hid h
 have HG := Lib.hid hg
 have hl : ps.length ≤ 64 := by
  unfold goodP oneP pairP at hg
  omega
 clear h hg
 go_enter Tryz.func49, Tryz.ntmps49
 go_wp2_with fail
 refine (rof_ok _ t ao n cap ps HG.out (HH.out.has.below (below_alloc w _))).mono ?_
 rintro e w1 ⟨vi, vo, rfl, o1, o2, hb1⟩
 have hB := heap_alloc_new w (.cells #[.int .u8 0, .slice none 0 0, .slice none 0 0, .slice none 0 0, .slice none 0 0, .int .i64 0] 123)
 have hB1 := block_mods hB (Mods.of_below hb1 (fun _ => False)) (fun h => h)
 have hb : Below w.heap.size w w1 := (below_alloc w _).trans (hb1.mono (by simp))
 have HH1 := Lib.hid (HH.out.has.below hb)
 obtain ⟨ai, ci, rfl⟩ := owns_slice o1
 obtain ⟨a2, c2, rfl⟩ := owns_slice o2
 rw [World.size_alloc] at o1 o2
 have O1 := Lib.hid o1
 have O2 := Lib.hid o2
 have HB1 := Lib.hid hB1
 clear o1 o2 hB hB1
 go_wp2_with fail
 refine (rints_any _ ao n cap ps HH1.out (by omega)).mono ?_
 rintro e w2 ⟨vp, rfl, o3, hb2⟩
 obtain ⟨a3, c3, rfl⟩ := owns_slice o3
 have O3 := Lib.hid o3
 clear o3
 have HB2 := Lib.hid (block_mods HB1.out (Mods.of_below hb2 (fun _ => False)) (fun h => h))
 have hB3 := block_alloc HB2.out (.cells #[.int .u8 t, .slice a3 ps.length c3, .slice ai (insP t ps).length ci, .slice a2 (outsP t ps).length c2, .slice none 0 0, .int .i64 0] 123)
 have q0 := cells_row _ _ hB3 0 _ rfl
 have q1 := cells_row _ _ hB3 1 _ rfl
 have q2 := cells_row _ _ hB3 2 _ rfl
 have q3 := cells_row _ _ hB3 3 _ rfl
 have q4 := cells_row _ _ hB3 4 _ rfl
 have q5 := cells_row _ _ hB3 5 _ rfl
 have r0 := frozen_of_block hB3 0
 have r1 := frozen_of_block hB3 1
 have r2 := frozen_of_block hB3 2
 have r3 := frozen_of_block hB3 3
 have r4 := frozen_of_block hB3 4
 have r5 := frozen_of_block hB3 5
 have HB3 := Lib.hid hB3
 clear hB3
 go_wp2
 have hK := block_setCell (block_setCell (block_setCell (block_setCell (block_setCell (block_setCell HB3.out 0 (.int .u8 t)) 1 (.slice a3 ps.length c3)) 2 (.slice ai (insP t ps).length ci)) 3 (.slice a2 (outsP t ps).length c2)) 4 (.slice none 0 0)) 5 (.int .i64 0)
 refine bodyPost_ret_by (results_row_tmp rfl _ _ _ _ _ _ _ rfl hK Tryz.underlying123 rfl (by kernel_rfl)) rfl ?_
 have s1 := hb1.size
 have s2 := hb2.size
 have sw : w.heap.size + 1 ≤ w1.heap.size := by simpa using s1
 have hbw2 : Below w.heap.size w w2 := hb.trans (hb2.mono hb.size)
 exact refnew_fin sw hb hb2 (below_alloc w2 _) O1.out O2.out O3.out (by rw [show keep0 t ps = [] by unfold keep0; rw [if_neg t1, if_neg t8, if_neg t10]]; exact World.ownsRow_nil _ _ _ _)
set_option maxRecDepth 100000 in
set_option maxHeartbeats 1000000 in
theorem rnew_8 {o : Col} {c : Nat} (w : World) (ao : Option Addr) (n cap : Nat) (ps : List Int) (hg : goodP 8 ps) (h : Ints w o c (.slice ao n cap) ps) : Calls Tryz.prog 49 #[.int .u8 8, .slice ao n cap] w (RefNew w 8 ps) := by
 have HH := Lib.hid h
 have HG := Lib.hid hg
 have hl : ps.length ≤ 64 := by
  simp [goodP] at hg; simp [hg]
 clear h hg
 go_enter Tryz.func49, Tryz.ntmps49
 go_wp2_with fail
 refine (rof_ok _ 8 ao n cap ps HG.out (HH.out.has.below (below_alloc w _))).mono ?_
 rintro e w1 ⟨vi, vo, rfl, o1, o2, hb1⟩
 have hB := heap_alloc_new w (.cells #[.int .u8 0, .slice none 0 0, .slice none 0 0, .slice none 0 0, .slice none 0 0, .int .i64 0] 123)
 have hB1 := block_mods hB (Mods.of_below hb1 (fun _ => False)) (fun h => h)
 have hb : Below w.heap.size w w1 := (below_alloc w _).trans (hb1.mono (by simp))
 have HH1 := Lib.hid (HH.out.has.below hb)
 obtain ⟨ai, ci, rfl⟩ := owns_slice o1
 obtain ⟨a2, c2, rfl⟩ := owns_slice o2
 rw [World.size_alloc] at o1 o2
 have O1 := Lib.hid o1
 have O2 := Lib.hid o2
 have HB1 := Lib.hid hB1
 clear o1 o2 hB hB1
 go_wp2_with fail
 refine (rints_any _ ao n cap ps HH1.out (by omega)).mono ?_
 rintro e w2 ⟨vp, rfl, o3, hb2⟩
 obtain ⟨a3, c3, rfl⟩ := owns_slice o3
 have O3 := Lib.hid o3
 clear o3
 have HB2 := Lib.hid (block_mods HB1.out (Mods.of_below hb2 (fun _ => False)) (fun h => h))
 have hB3 := block_alloc (block_alloc HB2.out (.cells #[.int .u8 8, .slice a3 ps.length c3, .slice ai (insP 8 ps).length ci, .slice a2 (outsP 8 ps).length c2, .slice (some ⟨w2.heap.size + 1, 0, none⟩) 1 1, .int .i64 0] 123)) (.cells #[.int .i64 0] 3)
 have q0 := cells_row _ _ hB3 0 _ rfl
 have q1 := cells_row _ _ hB3 1 _ rfl
 have q2 := cells_row _ _ hB3 2 _ rfl
 have q3 := cells_row _ _ hB3 3 _ rfl
 have q4 := cells_row _ _ hB3 4 _ rfl
 have q5 := cells_row _ _ hB3 5 _ rfl
 have r0 := frozen_of_block hB3 0
 have r1 := frozen_of_block hB3 1
 have r2 := frozen_of_block hB3 2
 have r3 := frozen_of_block hB3 3
 have r4 := frozen_of_block hB3 4
 have r5 := frozen_of_block hB3 5
 have HB3 := Lib.hid hB3
 clear hB3
 go_wp2
 have hK := block_setCell (block_setCell (block_setCell (block_setCell (block_setCell (block_setCell HB3.out 0 (.int .u8 8)) 1 (.slice a3 ps.length c3)) 2 (.slice ai (insP 8 ps).length ci)) 3 (.slice a2 (outsP 8 ps).length c2)) 4 (.slice (some ⟨w2.heap.size + 1, 0, none⟩) 1 1)) 5 (.int .i64 0)
 refine bodyPost_ret_by (results_row_tmp rfl _ _ _ _ _ _ _ rfl hK Tryz.underlying123 rfl (by kernel_rfl)) rfl ?_
 have s1 := hb1.size
 have s2 := hb2.size
 have sw : w.heap.size + 1 ≤ w1.heap.size := by simpa using s1
 have hlit := owns_base (owns_lit (w2.alloc (.cells #[.int .u8 8, .slice a3 ps.length c3, .slice ai (insP 8 ps).length ci, .slice a2 (outsP 8 ps).length c2, .slice (some ⟨w2.heap.size + 1, 0, none⟩) 1 1, .int .i64 0] 123)) [0] (by simp)) (base' := w2.heap.size) (fun k hk => by have e := Option.some.inj hk; simp at e; omega)
 rw [World.size_alloc] at hlit
 exact refnew_fin sw hb hb2 ((below_alloc w2 _).alloc (by simp) _) O1.out O2.out O3.out hlit
set_option maxRecDepth 100000 in
set_option maxHeartbeats 1000000 in
theorem rnew_10 {o : Col} {c : Nat} (w : World) (ao : Option Addr) (n cap : Nat) (ps : List Int) (hg : goodP 10 ps) (h : Ints w o c (.slice ao n cap) ps) : Calls Tryz.prog 49 #[.int .u8 10, .slice ao n cap] w (RefNew w 10 ps) := by
 have hl2 : ps.length = 2 := by simpa [goodP] using hg
 have hl : ps.length ≤ 64 := by omega
 have hpi : (0 : Int) < ps.length := by omega
 obtain rfl := h.len
 obtain ⟨b, off, rfl, -, hcap, -, -, hc⟩ := h.at (by omega)
 have c0 := hc 0 (by omega)
 have hcapi : (ps.length : Int) ≤ cap := by omega
 rw [Nat.add_zero] at c0
 have hk0 : keep0 10 ps = [ps[0]?.getD 0] := rfl
 generalize ps[0]?.getD 0 = x at *
 have HK0 := Lib.hid hk0
 have HG := Lib.hid hg
 have HH := Lib.hid h
 clear hc h hg hk0 hl2
 go_enter Tryz.func49, Tryz.ntmps49
 go_wp2_with fail
 refine (rof_ok _ 10 _ _ _ ps HG.out (HH.out.has.below (below_alloc w _))).mono ?_
 rintro e w1 ⟨vi, vo, rfl, o1, o2, hb1⟩
 have hB := heap_alloc_new w (.cells #[.int .u8 0, .slice none 0 0, .slice none 0 0, .slice none 0 0, .slice none 0 0, .int .i64 0] 123)
 have hB1 := block_mods hB (Mods.of_below hb1 (fun _ => False)) (fun h => h)
 have hb : Below w.heap.size w w1 := (below_alloc w _).trans (hb1.mono (by simp))
 have HH1 := Lib.hid (HH.out.has.below hb)
 obtain ⟨ai, ci, rfl⟩ := owns_slice o1
 obtain ⟨a2, c2, rfl⟩ := owns_slice o2
 rw [World.size_alloc] at o1 o2
 have O1 := Lib.hid o1
 have O2 := Lib.hid o2
 have HB1 := Lib.hid hB1
 clear o1 o2 hB hB1
 go_wp2_with fail
 refine (rints_any _ _ _ _ ps HH1.out (by omega)).mono ?_
 rintro e w2 ⟨vp, rfl, o3, hb2⟩
 obtain ⟨a3, c3, rfl⟩ := owns_slice o3
 have O3 := Lib.hid o3
 clear o3
 have HB2 := Lib.hid (block_mods HB1.out (Mods.of_below hb2 (fun _ => False)) (fun h => h))
 have c2x := cell_later hb2 (cell_later hb c0)
 have c3x := ca (o := .cells #[.int .u8 10, .slice a3 ps.length c3, .slice ai (insP 10 ps).length ci, .slice a2 (outsP 10 ps).length c2, .slice none 0 0, .int .i64 0] 123) c2x
 have hB3 := block_alloc (block_alloc HB2.out (.cells #[.int .u8 10, .slice a3 ps.length c3, .slice ai (insP 10 ps).length ci, .slice a2 (outsP 10 ps).length c2, .slice (some ⟨w2.heap.size + 1, 0, none⟩) 1 1, .int .i64 0] 123)) (.cells #[.int .i64 x] 3)
 have q0 := cells_row _ _ hB3 0 _ rfl
 have q1 := cells_row _ _ hB3 1 _ rfl
 have q2 := cells_row _ _ hB3 2 _ rfl
 have q3 := cells_row _ _ hB3 3 _ rfl
 have q4 := cells_row _ _ hB3 4 _ rfl
 have q5 := cells_row _ _ hB3 5 _ rfl
 have r0 := frozen_of_block hB3 0
 have r1 := frozen_of_block hB3 1
 have r2 := frozen_of_block hB3 2
 have r3 := frozen_of_block hB3 3
 have r4 := frozen_of_block hB3 4
 have r5 := frozen_of_block hB3 5
 have HB3 := Lib.hid hB3
 clear hB3
 go_wp2
 have hK := block_setCell (block_setCell (block_setCell (block_setCell (block_setCell (block_setCell HB3.out 0 (.int .u8 10)) 1 (.slice a3 ps.length c3)) 2 (.slice ai (insP 10 ps).length ci)) 3 (.slice a2 (outsP 10 ps).length c2)) 4 (.slice (some ⟨w2.heap.size + 1, 0, none⟩) 1 1)) 5 (.int .i64 0)
 refine bodyPost_ret_by (results_row_tmp rfl _ _ _ _ _ _ _ rfl hK Tryz.underlying123 rfl (by kernel_rfl)) rfl ?_
 have s1 := hb1.size
 have s2 := hb2.size
 have sw : w.heap.size + 1 ≤ w1.heap.size := by simpa using s1
 have hlit := owns_base (owns_lit (w2.alloc (.cells #[.int .u8 10, .slice a3 ps.length c3, .slice ai (insP 10 ps).length ci, .slice a2 (outsP 10 ps).length c2, .slice (some ⟨w2.heap.size + 1, 0, none⟩) 1 1, .int .i64 0] 123)) [x] (by simp)) (base' := w2.heap.size) (fun k hk => by have e := Option.some.inj hk; simp at e; omega)
 rw [World.size_alloc] at hlit
 exact refnew_fin sw hb hb2 ((below_alloc w2 _).alloc (by simp) _) O1.out O2.out O3.out (by rw [HK0.out]; exact hlit)
end Go.Proofs.YtaholpfikcdhbaaGreat

/- The reference's New of a filter. -/
namespace Go.Proofs.YtaholpfikcdhbaaGreat
open Go.RowKit
set_option maxRecDepth 100000 in
set_option maxHeartbeats 1000000 in
theorem rnew_1 {o : Col} {c : Nat} (w : World) (ao : Option Addr) (n cap : Nat) (ps : List Int) (hg : goodP 1 ps) (h : Ints w o c (.slice ao n cap) ps) : Calls Tryz.prog 49 #[.int .u8 1, .slice ao n cap] w (RefNew w 1 ps) := by
 have hl2 : 1 ≤ ps.length ∧ ps.length ≤ 16 := by simpa [goodP] using hg
 obtain ⟨i0, hi, hz0, hz1, hz2⟩ := info_parts info_int
 have hl : ps.length ≤ 64 := by omega
 have hpi : (1 : Int) ≤ ps.length := by omega
 have hpi2 : (ps.length : Int) ≤ 16 := by omega
 obtain rfl := h.len
 have HG := Lib.hid hg
 have HH := Lib.hid h
 clear h hg
 go_enter Tryz.func49, Tryz.ntmps49
 go_wp2_with fail
 refine (rof_ok _ 1 ao _ cap ps HG.out (HH.out.has.below (below_alloc w _))).mono ?_
 rintro e w1 ⟨vi, vo, rfl, o1, o2, hb1⟩
 have hB := heap_alloc_new w (.cells #[.int .u8 0, .slice none 0 0, .slice none 0 0, .slice none 0 0, .slice none 0 0, .int .i64 0] 123)
 have hB1 := block_mods hB (Mods.of_below hb1 (fun _ => False)) (fun h => h)
 have hb : Below w.heap.size w w1 := (below_alloc w _).trans (hb1.mono (by simp))
 have HH1 := Lib.hid (HH.out.has.below hb)
 obtain ⟨ai, ci, rfl⟩ := owns_slice o1
 obtain ⟨a2, c2, rfl⟩ := owns_slice o2
 rw [World.size_alloc] at o1 o2
 have O1 := Lib.hid o1
 have O2 := Lib.hid o2
 have HB1 := Lib.hid hB1
 clear o1 o2 hB hB1
 go_wp2_with fail
 refine (rints_any _ ao _ cap ps HH1.out (by omega)).mono ?_
 rintro e w2 ⟨vp, rfl, o3, hb2⟩
 obtain ⟨a3, c3, rfl⟩ := owns_slice o3
 have O3 := Lib.hid o3
 clear o3
 have HB2 := Lib.hid (block_mods HB1.out (Mods.of_below hb2 (fun _ => False)) (fun h => h))
 obtain ⟨w3, hr, hown, hg⟩ := run_make_full (P := Tryz.prog) (w2.alloc (.cells #[.int .u8 1, .slice a3 ps.length c3, .slice ai (insP 1 ps).length ci, .slice a2 (outsP 1 ps).length c2, .slice none 0 0, .int .i64 0] 123)) (w2.alloc (.cells #[.int .u8 1, .slice a3 ps.length c3, .slice ai (insP 1 ps).length ci, .slice a2 (outsP 1 ps).length c2, .slice none 0 0, .int .i64 0] 123)).heap.size 27 3 i0 _ 1 Tryz.underlying27 hi hz0 hz1 .i64 .i64 (ps.length - 1) (by rw [hz2]; omega) (by unfold maxLen; omega) (Nat.le_refl _)
 rw [show ((ps.length - 1 : Nat) : Int) = (ps.length : Int) - 1 by omega] at hr
 rw [made_ints] at hown
 have hb3 : Below (w2.alloc (.cells #[.int .u8 1, .slice a3 ps.length c3, .slice ai (insP 1 ps).length ci, .slice a2 (outsP 1 ps).length c2, .slice none 0 0, .int .i64 0] 123)).heap.size (w2.alloc (.cells #[.int .u8 1, .slice a3 ps.length c3, .slice ai (insP 1 ps).length ci, .slice a2 (outsP 1 ps).length c2, .slice none 0 0, .int .i64 0] 123)) w3 := ((Mods.refl (fun _ => False) _).grown hg (fun k hk _ => by cases hk)).below (Nat.le_refl _) (fun _ _ h => h)
 have hBa := block_mods (heap_alloc_new w2 (.cells #[.int .u8 1, .slice a3 ps.length c3, .slice ai (insP 1 ps).length ci, .slice a2 (outsP 1 ps).length c2, .slice none 0 0, .int .i64 0] 123)) (Mods.of_below hb3 (fun _ => False)) (fun h => h)
 have hBw := block_mods (block_alloc HB2.out (.cells #[.int .u8 1, .slice a3 ps.length c3, .slice ai (insP 1 ps).length ci, .slice a2 (outsP 1 ps).length c2, .slice none 0 0, .int .i64 0] 123)) (Mods.of_below hb3 (fun _ => False)) (fun h => h)
 have sw3 : w2.heap.size < w3.heap.size := by have := hb3.size; simp at this; omega
 have s1 := hb1.size
 have s2 := hb2.size
 have sw : w.heap.size + 1 ≤ w1.heap.size := by simpa using s1
 have qa4 := cells_row _ _ hBa 4 _ rfl
 have ra4 := frozen_of_block hBa 4
 have hBs := block_setCell hBa 4 (.slice (some ⟨w2.heap.size + 1, 0, none⟩) (ps.length - 1) (ps.length - 1))
 have qs0 := cells_row _ _ hBs 0 _ rfl
 have qs1 := cells_row _ _ hBs 1 _ rfl
 have qs2 := cells_row _ _ hBs 2 _ rfl
 have qs3 := cells_row _ _ hBs 3 _ rfl
 have qs4 := cells_row _ _ hBs 4 _ rfl
 have qs5 := cells_row _ _ hBs 5 _ rfl
 have hB3 := block_setCell_ne (a := ⟨w2.heap.size, 4, none⟩) hBw (show w.heap.size ≠ w2.heap.size by omega) (.slice (some ⟨w2.heap.size + 1, 0, none⟩) (ps.length - 1) (ps.length - 1))
 have q0 := cells_row _ _ hB3 0 _ rfl
 have q1 := cells_row _ _ hB3 1 _ rfl
 have q2 := cells_row _ _ hB3 2 _ rfl
 have q3 := cells_row _ _ hB3 3 _ rfl
 have q4 := cells_row _ _ hB3 4 _ rfl
 have q5 := cells_row _ _ hB3 5 _ rfl
 have r0 := frozen_of_block hB3 0
 have r1 := frozen_of_block hB3 1
 have r2 := frozen_of_block hB3 2
 have r3 := frozen_of_block hB3 3
 have r4 := frozen_of_block hB3 4
 have r5 := frozen_of_block hB3 5
 have HB3 := Lib.hid hB3
 have HOWN := Lib.hid hown
 have HB3b := Lib.hid hb3
 clear hB3 hown hb3 hg hBs hBw hBa
 go_wp2_with fail
 have hK := block_setCell (block_setCell (block_setCell (block_setCell (block_setCell (block_setCell HB3.out 0 (.int .u8 1)) 1 (.slice a3 ps.length c3)) 2 (.slice ai (insP 1 ps).length ci)) 3 (.slice a2 (outsP 1 ps).length c2)) 4 (.slice (some ⟨w2.heap.size + 1, 0, none⟩) (ps.length - 1) (ps.length - 1))) 5 (.int .i64 0)
 refine bodyPost_ret_by (results_row_tmp rfl _ _ _ _ _ _ _ rfl hK Tryz.underlying123 rfl (by kernel_rfl)) rfl ?_
 have hW : Below w2.heap.size w2 (w3.setCell ⟨w2.heap.size, 4, none⟩ (.slice (some ⟨w2.heap.size + 1, 0, none⟩) (ps.length - 1) (ps.length - 1))) := ((below_alloc w2 _).trans (HB3b.out.mono (by simp))).setCell (Nat.le_refl _) _
 have hrow : (w3.setCell ⟨w2.heap.size, 4, none⟩ (.slice (some ⟨w2.heap.size + 1, 0, none⟩) (ps.length - 1) (ps.length - 1))).ownsRow w2.heap.size 3 1 (.slice (some ⟨w2.heap.size + 1, 0, none⟩) (ps.length - 1) (ps.length - 1)) (ps.length - 1) (ivs (List.replicate (ps.length - 1) 0)) := by
  have h1 := HOWN.out
  rw [World.size_alloc] at h1
  refine owns_base (owns_kept h1 ((Mods.refl (fun k => k = w2.heap.size) w3).setCell (p := ⟨w2.heap.size, 4, none⟩) (fun _ => rfl) _) (fun k hk e => by have := (h1.lt k hk).1; omega)) (fun k hk => by have := (h1.lt k hk).1; omega)
 have hk0 : keep0 1 ps = List.replicate (ps.length - 1) 0 := rfl
 exact refnew_fin sw hb hb2 hW O1.out O2.out O3.out (by rw [hk0, List.length_replicate]; exact hrow)
theorem rnew_ok {o : Col} {c : Nat} (w : World) (t : Int) (ao : Option Addr) (n cap : Nat) (ps : List Int) (hg : goodP t ps) (h : Ints w o c (.slice ao n cap) ps) : Calls Tryz.prog 49 #[.int .u8 t, .slice ao n cap] w (RefNew w t ps) := by
 by_cases t1 : t = 1
 ·
  subst t1; exact rnew_1 w ao n cap ps hg h
 by_cases t8 : t = 8
 ·
  subst t8; exact rnew_8 w ao n cap ps hg h
 by_cases t10 : t = 10
 ·
  subst t10; exact rnew_10 w ao n cap ps hg h
 exact rnew_else w t ao n cap ps hg h t1 t8 t10
end Go.Proofs.YtaholpfikcdhbaaGreat
