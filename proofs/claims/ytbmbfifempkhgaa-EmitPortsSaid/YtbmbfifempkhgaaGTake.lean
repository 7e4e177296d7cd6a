/- The checker's take. -/
import Derived.Test.YtbmbfifempkhgaaGChk
import Derived.Deep.QuietTactic
import Derived.BigQuiet
namespace Go.Proofs.Ytbmbfifempkhgaa
open Go.RowKit

theorem bvs_get {l : List Bool} {k : Nat} (h : k < l.length) : (bvs l)[k]? = some (.bool (l[k]?.getD false)) := by simp [bvs, h]
theorem bvs_set (l : List Bool) (k : Nat) (b : Bool) : (bvs l).toArray.setIfInBounds k (.bool b) = (bvs (l.set k b)).toArray := by simp [bvs, List.map_set]

/-- where a row lies -/
theorem Side.row {w : World} {o : Col} {c d : Nat} {ao : Option Addr} {n cap : Nat} {side : List (List Bool)} {gs : List Nat} (h : Side w o c d (.slice ao n cap) side gs) {a : Nat} (ha : a < side.length) :
    n = side.length ∧ n ≤ cap ∧ ∃ g, ao = some ⟨g, 0, none⟩ ∧ w.cell? ⟨g, a, none⟩ = some (.slice (some ⟨gs[a]?.getD 0, 0, none⟩) (side[a]?.getD []).length (side[a]?.getD []).length) := by
  obtain ⟨h1, h2, g, _, h4, h5, _, _⟩ := owns_cell h.own.1 (by simp; omega)
  exact ⟨h1, by omega, g, h4, h5 a _ (by simp [ha])⟩

/-- a place is taken -/
theorem Side.take {w : World} {o : Col} {c d : Nat} {v : Value} {side : List (List Bool)} {gs : List Nat} (h : Side w o c d v side gs) (hcd : c ≠ d) {a p : Nat} (ha : a < side.length) :
    Turn o o (fun x => x = d) w (w.setCell ⟨gs[a]?.getD 0, p, none⟩ (.bool true)) ∧ Side (w.setCell ⟨gs[a]?.getD 0, p, none⟩ (.bool true)) o c d v (side.set a ((side[a]?.getD []).set p true)) gs := by
  have hb := h.rows a ha
  obtain ⟨s1, T⟩ := hb.set p (.bool true)
  rw [bvs_set] at s1
  refine ⟨T, ⟨by rw [List.length_set]; exact h.len, ?_, fun k hk => ?_, fun i j hij hj => h.apart i j hij (by simpa using hj)⟩⟩
  · have h1 := h.own.turn T (fun e => hcd e)
    rw [List.length_set]
    have e : ((List.range side.length).map fun k => Value.slice (some ⟨gs[k]?.getD 0, 0, none⟩) ((side.set a ((side[a]?.getD []).set p true))[k]?.getD []).length ((side.set a ((side[a]?.getD []).set p true))[k]?.getD []).length) = (List.range side.length).map fun k => .slice (some ⟨gs[k]?.getD 0, 0, none⟩) (side[k]?.getD []).length (side[k]?.getD []).length := by
      refine List.map_congr_left fun k _ => ?_
      have e2 : ((side.set a ((side[a]?.getD []).set p true))[k]?.getD []).length = (side[k]?.getD []).length := by
        by_cases e : a = k
        · subst e
          simp [ha]
        · rw [List.getElem?_set_ne e]
      rw [e2]
    rw [e]
    exact h1
  · rw [List.length_set] at hk
    by_cases e : a = k
    · subst e
      rw [List.getElem?_set_self ha]
      exact s1
    · rw [List.getElem?_set_ne e]
      have hr := h.rows k hk
      have hne : gs[k]?.getD 0 ≠ gs[a]?.getD 0 := by
        rcases Nat.lt_or_gt_of_ne e with h1 | h1
        · exact (h.apart a k h1 hk).symm
        · exact h.apart k a h1 ha
      exact ⟨block_setCell_ne hr.1 hne _, hr.2⟩

theorem side1_nat (side : List (List Bool)) (a : Nat) : side1 side (a : Int) = side[a]?.getD [] := by simp [side1]

set_option maxRecDepth 100000 in
set_option maxHeartbeats 1000000 in
theorem gtake_any (w : World) (o : Col) (c d : Nat) (v : Value) (side : List (List Bool)) (gs : List Nat) (a p : Int) (hcd : c ≠ d) (h : Side w o c d v side gs) :
    Calls Try.prog 112 #[v, .int .i64 a, .int .i64 p] w fun e w' => e = .returned (.int .i64 (takeE side a p)) ∧ Turn o o (fun x => x = d) w w' ∧ (takeE side a p = 0 → Side w' o c d v (takeS side a p) gs) := by
  obtain ⟨ao, cap, rfl⟩ := h.own.slice
  obtain ⟨N, hN⟩ : ∃ N, takeE side a p = N := ⟨_, rfl⟩
  rw [hN]
  have HN := Lib.hid hN
  have HS := Lib.hid h
  clear hN h
  have hT0 := Lib.hid (Turn.refl o (fun x => x = d) w)
  by_cases h1 : a < 0
  · have e : N = 84 := by rw [← HN.out, takeE, if_pos (.inl h1)]
    subst e
    go_enter Try.func112, Try.ntmps112
    go_wp2
    go_ret
    exact ⟨rfl, by first | exact ⟨hT0.out, fun h => by cases h⟩ | exact hT0.out⟩
  obtain ⟨n, rfl⟩ : ∃ n : Nat, a = n := ⟨a.toNat, by omega⟩
  by_cases h2 : side.length ≤ n
  · have h2i : (side.length : Int) ≤ n := by omega
    have e : N = 84 := by rw [← HN.out, takeE, if_pos (.inr h2i)]
    subst e
    go_enter Try.func112, Try.ntmps112
    go_wp2
    go_ret
    exact ⟨rfl, by first | exact ⟨hT0.out, fun h => by cases h⟩ | exact hT0.out⟩
  have hlt : n < side.length := by omega
  have hlti : (n : Int) < side.length := by omega
  obtain ⟨_, hcap, g, rfl, hc⟩ := HS.out.row hlt
  have hcapi : (side.length : Int) ≤ cap := by omega
  have hE : N = if p < 0 ∨ ((side[n]?.getD []).length : Int) ≤ p then 85 else if (side[n]?.getD [])[p.toNat]?.getD false then 86 else 0 := by
    rw [← HN.out, takeE, if_neg (by omega), side1_nat]
  have HE := Lib.hid hE
  obtain ⟨row, hrow⟩ : ∃ row, side[n]?.getD [] = row := ⟨_, rfl⟩
  rw [hrow] at HE hc
  have hblk := HS.out.rows n hlt
  rw [hrow] at hblk
  have HR := Lib.hid hrow
  clear hE hrow
  by_cases h3 : p < 0
  · have e : N = 85 := by rw [HE.out, if_pos (.inl h3)]
    subst e
    go_enter Try.func112, Try.ntmps112
    go_wp2
    go_ret
    exact ⟨rfl, by first | exact ⟨hT0.out, fun h => by cases h⟩ | exact hT0.out⟩
  obtain ⟨q, rfl⟩ : ∃ q : Nat, p = q := ⟨p.toNat, by omega⟩
  by_cases h4 : row.length ≤ q
  · have h4i : (row.length : Int) ≤ q := by omega
    have e : N = 85 := by rw [HE.out, if_pos (.inr h4i)]
    subst e
    go_enter Try.func112, Try.ntmps112
    go_wp2
    go_ret
    exact ⟨rfl, by first | exact ⟨hT0.out, fun h => by cases h⟩ | exact hT0.out⟩
  have h4i : (q : Int) < row.length := by omega
  have hq := hblk.cell q (.bool (row[q]?.getD false)) (by rw [List.getElem?_toArray]; exact bvs_get (by omega))
  have hfz := hblk.frozen q
  have hE2 : N = if row[q]?.getD false then 86 else 0 := by rw [HE.out, if_neg (by omega)]; rfl
  have HE2 := Lib.hid hE2
  clear hE2 hblk HE
  obtain ⟨b, hb⟩ : ∃ b, row[q]?.getD false = b := ⟨_, rfl⟩
  rw [hb] at hq HE2
  clear hb
  cases b with
  | true =>
    have e : N = 86 := HE2.out
    subst e
    go_enter Try.func112, Try.ntmps112
    go_wp2
    go_ret
    exact ⟨rfl, by first | exact ⟨hT0.out, fun h => by cases h⟩ | exact hT0.out⟩
  | false =>
    have e : N = 0 := HE2.out
    subst e
    obtain ⟨t1, t2⟩ := HS.out.take hcd (a := n) (p := q) hlt
    have T1 := Lib.hid t1
    have T2 : Hid (Side (w.setCell ⟨gs[n]?.getD 0, q, none⟩ (.bool true)) o c d (.slice (some ⟨g, 0, none⟩) side.length cap) (takeS side (n : Int) (q : Int)) gs) := Lib.hid (by simpa [takeS, side1_nat] using t2)
    clear t1 t2
    go_enter Try.func112, Try.ntmps112
    go_wp2
    go_ret
    exact ⟨rfl, T1.out, by first | exact T2.out | exact fun _ => T2.out⟩
end Go.Proofs.Ytbmbfifempkhgaa
