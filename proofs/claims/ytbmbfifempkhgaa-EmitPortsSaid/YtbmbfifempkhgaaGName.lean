/- The checker's name. -/
import Derived.Test.YtbmbfifempkhgaaGChk
import Derived.Test.YtbmbfifempkhgaaLexAny
namespace Go.Proofs.Ytbmbfifempkhgaa
open Go.RowKit
open Go.Maps (Keyed IsMap Tidy)

theorem lt_max {n m : Nat} (h : n ≤ m) (hm : m ≤ 1000000) : n < maxLen := by unfold maxLen; omega
theorem size_max {n : Nat} (h : n ≤ 4611686018427387904) : n ≤ maxLen := by unfold maxLen; omega
set_option maxRecDepth 100000 in
set_option maxHeartbeats 1000000 in
theorem gname_any (w : World) (o : Col) (C B : Nat) (X : ChkV) (k : Chk) (s : ByteArray) (hs : s.size ≤ 4611686018427387904) (hk : k.seen.length ≤ 1000000) (h : ChkAt w o C B X k) :
    Calls Try.prog 111 #[.pointer (some ⟨C, 0, none⟩), .string s] w fun e w' => e = .returned (.int .i64 (nameE k.seen s)) ∧ ∃ o', Turn o o' (fun x => x = 2) w w' ∧ (nameE k.seen s = 0 → ChkAt w' o' C B X ⟨k.seen ++ [s], k.ins, k.outs⟩) := by
  obtain ⟨N, hN⟩ : ∃ N, nameE k.seen s = N := ⟨_, rfl⟩
  rw [hN]
  have HN := Lib.hid hN
  have HS := Lib.hid hs
  have HK := Lib.hid hk
  have HC := Lib.hid h
  clear hN hs hk h
  go_enter Try.func111, Try.ntmps111
  go_wp2_with fail
  refine (name_any _ s HS.out).mono ?_
  rintro e w1 ⟨rfl, hb1⟩
  have HB1 := Lib.hid hb1
  have HC1 := Lib.hid (HC.out.turn (Turn.of_below o 0 hb1) (fun _ _ h => h))
  obtain ⟨x, hx⟩ : ∃ x, nameP s = x := ⟨_, rfl⟩
  rw [hx]
  have HX := Lib.hid hx
  clear hx hb1 HC
  cases x with
  | false =>
    have e : N = 82 := by rw [← HN.out, nameE, HX.out]; rfl
    subst e
    go_wp2
    go_ret
    exact ⟨rfl, _, (Turn.of_below o 0 HB1.out).mono (fun _ h => h.elim), fun h => by cases h⟩
  | true =>
    obtain ⟨D, n, gI, gO, h1, h2, h3, h4, h5, h6, h7⟩ := HC1.out.st
    have q5 := h1.cell 5 (.map (some B)) rfl
    have H1 := Lib.hid h1
    have H2 := Lib.hid h2
    have H4 := Lib.hid h4
    have H5 := Lib.hid h5
    have H6 := Lib.hid h6
    have H7 := Lib.hid h7
    have H3 := Lib.hid h3
    clear h1 h2 h3 h4 h5 h6 h7
    have hml : s.size ≤ maxLen := size_max HS.out
    go_wp2_with (at_lookup; refine stop_here ?_)
    refine go_on ?_
    refine wpList_lookup_own_int _ rfl _ _ 176 rfl 9 3 .i64 smap_law Try.underlying176 Try.underlying3 (int_zero _) B n D rfl H2.out _ _ rfl (WideMaps.keyOf_string_mk Try.underlying9 hml) ?_
    intro c hat hwc
    have hc := H4.out.2 s
    rw [hat] at hc
    obtain ⟨y, hy⟩ : ∃ y, k.seen.any (fun x => decide (x = s)) = y := ⟨_, rfl⟩
    rw [hy] at hc
    have HY := Lib.hid hy
    clear hat hwc hy
    cases y with
    | true =>
      obtain rfl : c = 1 := by injection hc with h; injection h with _ h
      have e : N = 83 := by rw [← HN.out, nameE, HX.out, HY.out]; rfl
      subst e
      clear hc
      go_wp2
      go_ret
      exact ⟨rfl, _, (Turn.of_below o 0 HB1.out).mono (fun _ h => h.elim), fun h => by cases h⟩
    | false =>
      obtain rfl : c = 0 := by injection hc with h; injection h with _ h
      have e : N = 0 := by rw [← HN.out, nameE, HX.out, HY.out]; rfl
      subst e
      clear hc
      go_wp2_with (at_mapUpdate; refine stop_here ?_)
      refine go_on ?_
      refine wpList_mapUpdate_own _ rfl _ _ _ 176 rfl 9 3 smap_law Try.underlying176 _ B n D rfl H2.out (lt_max H5.out HK.out) _ _ _ rfl rfl (WideMaps.keyOf_string_mk Try.underlying9 hml) _ [] (plainElem_int Try.underlying3 (by decide)) ?_
      intro w2 hown2 hg2
      have T2 : Turn (ext o w.heap.size 0) (ext (ext o w.heap.size 0) w1.heap.size 0) (fun x => x = 2) w1 w2 := Turn.of_mods _ 0 ((Mods.refl (fun b => b = B) w1).grown hg2 (fun b hb _ => (Option.some.inj hb).symm)) (fun b _ e => by rw [e]; exact H3.out)
      have HT := Lib.hid (((Turn.of_below o 0 HB1.out).mono (D := fun x => x = 2) (fun _ h => h.elim)).trans T2 (fun x e => e))
      have hB2 : ext (ext o w.heap.size 0) w1.heap.size 0 B = 2 := (ext_old H2.out.lt).trans H3.out
      have HN2 : Hid (ChkAt w2 (ext (ext o w.heap.size 0) w1.heap.size 0) C B X ⟨k.seen ++ [s], k.ins, k.outs⟩) := Lib.hid ⟨_, _, gI, gO, H1.out.turn T2 (by decide), hown2, hB2, seen_next H4.out s, by have := H5.out; simp; omega, H6.out.turn T2 (by decide) (by decide), H7.out.turn T2 (by decide) (by decide)⟩
      clear hown2 hg2 T2 hB2
      go_wp2
      go_ret
      exact ⟨rfl, _, HT.out, HN2.out⟩
end Go.Proofs.Ytbmbfifempkhgaa
