/- What the kinds of actors do in a firing: copies, unweave. -/
import Derived.Test.YtknmiiajeafjpaaReck2
namespace Go.Proofs.Ytknmiiajeafjpaa
open Go.RowKit

theorem made_rows (n : Nat) : (madeCells (Value.cells (.slice none 0 0)) (n * 1)).toList = List.replicate n (.slice none 0 0) := by
  rw [Nat.mul_one]
  simp [madeCells, Value.cells, Nat.mod_one, List.map_const']

theorem outs_made {w1 : World} {N K g n : Nat} (hown : w1.ownsRow N 22 1 (.slice (some ⟨g, 0, none⟩) n n) n (List.replicate n (.slice none 0 0))) (hK : K < N) : Outs w1 (canon N K) 1 (.slice (some ⟨g, 0, none⟩) n n) (List.replicate n []) := by
  have hrow : ∀ k, k < n → (List.replicate n (Value.slice none 0 0))[k]?.getD undef = .slice none 0 0 := fun k hk => by rw [List.getElem?_replicate, if_pos hk]; rfl
  refine ⟨List.replicate n (.slice none 0 0), by simp, ⟨by rw [List.length_replicate]; exact owns_base hown (fun _ _ => Nat.zero_le _), fun k hk => ?_⟩, fun k hk => ?_, fun i j B hij hj hB => ?_, fun i B hi hB => ?_⟩
  · have := (hown.lt k hk).1
    exact canon_new this (by omega)
  · rw [List.length_replicate] at hk
    rw [hrow k hk, List.getElem?_replicate, if_pos hk]
    exact Own.nil _ _ _ _ _
  · rw [List.length_replicate] at hj
    rw [hrow i (by omega)] at hB
    simp [Value.ownBlock] at hB
  · rw [List.length_replicate] at hi
    rw [hrow i hi] at hB
    simp [Value.ownBlock] at hB

theorem rep_set {α : Type} (n k : Nat) (x y : α) (h : k < n) : (List.replicate k x ++ List.replicate (n - k) y).set k x = List.replicate (k + 1) x ++ List.replicate (n - (k + 1)) y := by
  rw [List.set_append_right _ _ (by simp), List.replicate_succ', List.append_assoc]
  congr 1
  simp only [List.length_replicate, Nat.sub_self]
  obtain ⟨m, hm⟩ : ∃ m, n - k = m + 1 := ⟨n - k - 1, by omega⟩
  rw [hm, List.replicate_succ, show n - (k + 1) = m by omega]
  rfl

set_option maxRecDepth 100000 in
set_option maxHeartbeats 2000000 in
theorem copy_reck (w : World) (K : Nat) (vi vo nv insv : Value) (x : Int) (n : Nat) (lo : List Int) (hlo : lo.length = n) (hn : n ≤ 1000) (hK : w.heap[K]? = some (.cells #[vi, vo, nv] 106 (0, 0))) (hvo : Has w vo (ivs lo)) (hins : LL w insv [[x]]) :
    Calls Try.prog 94 #[.pointer (some ⟨K, 0, none⟩), insv] w (Reck w K 106 #[vi, vo, nv] (List.replicate n [x])) := by
  obtain ⟨iao, icp, rfl⟩ := hins.slice
  obtain ⟨bi, oi, ie, hci, hrow⟩ := hins.at (by simp)
  subst ie
  obtain ⟨a0, c0, hr0, hh0⟩ := hrow 0 (by simp)
  obtain ⟨b0, o0, e0, -, hc0, -, -, hcell⟩ := Vals.at hh0 (by simp)
  subst e0
  have hx0 := hcell 0 (by simp)
  simp at hr0 hx0 hc0 hci
  clear hcell hrow hh0 hins
  obtain ⟨oao, ocp, rfl⟩ := hvo.slice
  rw [ivs_len, hlo] at hK hvo ⊢
  clear hvo hlo
  have hk1 := cells_row w K hK 1 _ rfl
  simp at hk1
  obtain ⟨i0, hi, hz0, hz1, hz2⟩ := info_parts info_ints
  obtain ⟨w1, hr, hown, hg⟩ := run_make_full (P := Try.prog) w w.heap.size 29 22 i0 _ 1 Try.underlying29 hi hz0 hz1 .i64 .i64 n (by rw [hz2]; omega) (by unfold maxLen; omega) (Nat.le_refl _)
  have hb1 : Below w.heap.size w w1 := ((Mods.refl (fun _ => False) w).grown hg (fun k hk _ => by cases hk)).below (Nat.le_refl _) (fun _ _ h => h)
  rw [made_rows] at hown
  have hO := outs_made (K := K) hown (block_lt hK)
  have hs1 := hb1.size
  have hni : (n : Int) ≤ 1000 := by omega
  have HK := Lib.hid hK
  have hKw := block_lt hK
  clear hown hg hK
  go_enter Try.func94, Try.ntmps94
  go_wp2_with fail
  clear hr
  go_loopw [17] (fun i wr => ∃ k : Nat, k ≤ n ∧ i = .int .i64 k ∧ Outs wr (canon w.heap.size K) 1 (.slice (some ⟨w.heap.size, 0, none⟩) n n) (List.replicate k [x] ++ List.replicate (n - k) []) ∧ Below w.heap.size w wr) (fun i _ => n - (intOf i).toNat)
  case atStart => exact ⟨0, Nat.zero_le _, rfl, by simpa using hO, hb1⟩
  case round =>
    clear hO hb1 hs1
    obtain ⟨k, hk, rfl, hO, hb⟩ := hrel
    by_cases hlt : k < n
    · have hlti : (k : Int) < n := by omega
      obtain ⟨vs, h1, h2, h3, h4, h5⟩ := hO
      have hvl : vs.length = n := by rw [h1]; simp; omega
      obtain ⟨-, -, g', -, eg, hcg, hfg, hgw⟩ := owns_cell h2.1 (by omega)
      cases eg
      have hcgk := ca (o := .cells #[.int .i64 x] 3) (hcg k vs[k] (by simp [hvl, hlt]))
      have hfgk : (wr.alloc (.cells #[.int .i64 x] 3)).frozen? ⟨w.heap.size, k, none⟩ = false := by
        have := hfg k
        rw [← World.frozen?_of_block (w := wr) (w' := wr.alloc (.cells #[.int .i64 x] 3)) (a := ⟨w.heap.size, k, none⟩) (Below.heap_alloc wr _ _ hgw)] at this
        exact this
      have hr1 := cell_later hb hr0
      have hx1 := cell_later hb hx0
      have hs := hb.size
      have hwn : wr.heap.size ≠ K := by omega
      have hO2 := Outs.set (v' := .slice (some ⟨wr.heap.size, 0, none⟩) 1 1) (l' := [x]) (w1 := wr.alloc (.cells #[.int .i64 x] 3)) (F := fun _ => False) (i := k) h1 h2 h3 h4 (fun i B hi hB e => h5 i B hi hB (by rw [e]; rfl)) (by simp; omega) ((Mods.refl _ wr).alloc _) (fun _ _ h => h.elim)
        ⟨owns_base (owns_lit wr [x] (by simp)) (fun _ _ => Nat.zero_le _), fun j hj => by obtain rfl := Option.some.inj hj; exact canon_new hs hwn⟩ (.inr fun j hj => by obtain rfl := Option.some.inj hj; exact Nat.le_refl _)
      rw [rep_set n k [x] [] hlt] at hO2
      have hb2 : Below w.heap.size w ((wr.alloc (.cells #[.int .i64 x] 3)).setCell ⟨w.heap.size, k, none⟩ (.slice (some ⟨wr.heap.size, 0, none⟩) 1 1)) := (hb.alloc hs _).setCell (Nat.le_refl _) _
      rw [World.setCell_alloc_past _ _ _ _ hgw] at hO2 hb2
      generalize vs[k] = vk at hcgk
      clear h1 h2 h3 h4 h5 hcg hfg hb hvl
      go_wp2
      go_roundw
      case rel => exact ⟨k + 1, by omega, by go_num, hO2, hb2⟩
      case measure => simp [intOf]; omega
    · obtain rfl : k = n := by omega
      go_wp2
      go_ret2
      rw [Nat.sub_self, List.replicate_zero, List.append_nil] at hO
      exact ⟨_, rfl, Mods.of_below hb _, block_mods HK.out (Mods.of_below hb (fun _ => False)) (fun h => h), hO⟩

/-- the first k tokens, dealt out to n ports -/
def dealP (n : Nat) (l : List Int) (k : Nat) : List (List Int) := (List.range n).map fun i => ((List.range k).filter (fun q => q % n == i)).map fun q => l[q]?.getD 0
/-- n ports of m tokens -/
def partP (n m : Nat) (l : List Int) : List (List Int) := (List.range n).map fun i => (List.range m).map fun j => l[j * n + i]?.getD 0

theorem dealP_len (n k : Nat) (l : List Int) : (dealP n l k).length = n := by simp [dealP]
theorem dealP_zero (n : Nat) (l : List Int) : dealP n l 0 = List.replicate n [] := by simp [dealP, List.map_const']
theorem dealP_get (n k i : Nat) (l : List Int) (hi : i < n) : (dealP n l k)[i]?.getD [] = ((List.range k).filter (fun q => q % n == i)).map fun q => l[q]?.getD 0 := by simp [dealP, hi]
theorem dealP_row_len (n k i : Nat) (l : List Int) (hi : i < n) : ((dealP n l k)[i]?.getD []).length ≤ k := by
  rw [dealP_get n k i l hi, List.length_map]
  have := List.length_filter_le (fun q => q % n == i) (List.range k)
  simpa using this
theorem dealP_step (n k : Nat) (l : List Int) (hn : 0 < n) : dealP n l (k + 1) = (dealP n l k).set (k % n) ((dealP n l k)[k % n]?.getD [] ++ [l[k]?.getD 0]) := by
  have hkn : k % n < n := Nat.mod_lt _ hn
  refine List.ext_getElem (by simp [dealP]) fun i h1 h2 => ?_
  have hi : i < n := by simpa [dealP] using h1
  rw [List.getElem_set]
  have e1 : (dealP n l (k + 1))[i] = ((List.range (k + 1)).filter (fun q => q % n == i)).map fun q => l[q]?.getD 0 := by simp [dealP]
  rw [e1, List.range_succ, List.filter_append, List.map_append]
  split
  · rename_i he
    subst he
    rw [dealP_get n k _ l hi]
    simp
  · rename_i he
    have e2 : (dealP n l k)[i]'(by simp [dealP, hi]) = ((List.range k).filter (fun q => q % n == i)).map fun q => l[q]?.getD 0 := by simp [dealP]
    rw [e2]
    simp [he]

theorem filter_mod (n m i : Nat) (hi : i < n) : (List.range (n * m)).filter (fun q => q % n == i) = (List.range m).map fun j => j * n + i := by
  induction m with
  | zero => simp
  | succ m ih =>
    have e : (List.range n).filter (fun q => (n * m + q) % n == i) = [i] := by
      have h0 : (List.range n).filter (fun q => (n * m + q) % n == i) = (List.range n).filter (fun q => q == i) := by
        refine List.filter_congr fun q hq => ?_
        have hq := List.mem_range.1 hq
        rw [Nat.mul_add_mod, Nat.mod_eq_of_lt hq]
      rw [h0]
      obtain ⟨r, rfl⟩ : ∃ r, n = i + (1 + r) := ⟨n - i - 1, by omega⟩
      rw [List.range_add, List.filter_append, List.filter_eq_nil_iff.2 (fun q hq => by have := List.mem_range.1 hq; simp; omega), List.range_add]
      simp only [List.map_append, List.filter_append, List.nil_append]
      have : (List.map (fun x => i + x) (List.map (fun x => 1 + x) (List.range r))).filter (fun q => q == i) = [] := List.filter_eq_nil_iff.2 fun q hq => by
        simp at hq
        obtain ⟨a, _, rfl⟩ := hq
        simp
      rw [this]
      simp
    rw [Nat.mul_succ, List.range_add, List.filter_append, ih, List.filter_map, List.range_succ, List.map_append]
    congr 1
    show List.map _ ((List.range n).filter (fun q => (n * m + q) % n == i)) = _
    rw [e]
    simp [Nat.mul_comm]

theorem dealP_end (n m : Nat) (l : List Int) : dealP n l (n * m) = partP n m l := by
  unfold dealP partP
  refine List.map_congr_left fun i hi => ?_
  rw [filter_mod n m i (List.mem_range.1 hi), List.map_map]
  rfl

set_option maxRecDepth 100000 in
set_option maxHeartbeats 4000000 in
theorem unw_reck (w : World) (K : Nat) (vi vo nv insv : Value) (n m : Nat) (l lo : List Int) (hlo : lo.length = n) (hn : 1 ≤ n) (hn2 : n ≤ 16) (hm : m ≤ 64) (hl : l.length = n * m) (hK : w.heap[K]? = some (.cells #[vi, vo, nv] 95 (0, 0))) (hvo : Has w vo (ivs lo)) (hins : LL w insv [l]) :
    Calls Try.prog 87 #[.pointer (some ⟨K, 0, none⟩), insv] w (Reck w K 95 #[vi, vo, nv] (partP n m l)) := by
  obtain ⟨j0, ji, jz0, jz1, jz2⟩ := info_parts info_int
  have hnm : n * m ≤ 16 * 64 := Nat.mul_le_mul hn2 hm
  obtain ⟨iao, icp, rfl⟩ := hins.slice
  obtain ⟨bi, oi, ie, hci, hrow⟩ := hins.at (by simp)
  subst ie
  obtain ⟨a0, c0, hr0, hh0⟩ := hrow 0 (by simp)
  simp at hr0 hci
  simp only [List.getElem?_cons_zero, Option.getD_some] at hh0
  have HH := Lib.hid hh0
  clear hrow hh0 hins
  obtain ⟨oao, ocp, rfl⟩ := hvo.slice
  rw [ivs_len, hlo] at hK hvo ⊢
  clear hvo hlo
  have hk1 := cells_row w K hK 1 _ rfl
  simp at hk1
  obtain ⟨i0, hi, hz0, hz1, hz2⟩ := info_parts info_ints
  obtain ⟨w1, hr, hown, hg⟩ := run_make_full (P := Try.prog) w w.heap.size 29 22 i0 _ 1 Try.underlying29 hi hz0 hz1 .i64 .i64 n (by rw [hz2]; omega) (by unfold maxLen; omega) (Nat.le_refl _)
  have hb1 : Below w.heap.size w w1 := ((Mods.refl (fun _ => False) w).grown hg (fun k hk _ => by cases hk)).below (Nat.le_refl _) (fun _ _ h => h)
  rw [made_rows] at hown
  have hO := outs_made (K := K) hown (block_lt hK)
  rw [← dealP_zero n l] at hO
  have hr1 := cell_later hb1 hr0
  have hs1 := hb1.size
  have hni : (n : Int) ≤ 16 := by omega
  have hni1 : (1 : Int) ≤ n := by omega
  have HK := Lib.hid hK
  have hKw := block_lt hK
  have hlb : l.length ≤ 1024 := by omega
  have hlbi : (l.length : Int) ≤ 1024 := by omega
  have HL := Lib.hid hl
  clear hown hg hK hl
  go_enter Try.func87, Try.ntmps87
  go_wp2_with fail
  clear hr
  go_loopw [21] (fun i wr => ∃ k : Nat, k ≤ l.length ∧ i = .int .i64 k ∧ Outs wr (canon w.heap.size K) 1 (.slice (some ⟨w.heap.size, 0, none⟩) n n) (dealP n l k) ∧ Below w.heap.size w wr) (fun i _ => l.length - (intOf i).toNat)
  case atStart => exact ⟨0, Nat.zero_le _, rfl, hO, hb1⟩
  case round =>
    clear hO hb1 hs1 hr1
    obtain ⟨k, hk, rfl, hO, hb⟩ := hrel
    by_cases hlt : k < l.length
    · have hlti : (k : Int) < l.length := by omega
      obtain ⟨b0, o0, e0, -, hc0, -, -, hcell⟩ := Vals.at HH.out (by simp; omega)
      subst e0
      have hx0 := hcell k (by simp; omega)
      rw [ivs_get hlt] at hx0
      have hx1 := cell_later hb hx0
      have HS := Lib.hid (dealP_step n k l (by omega))
      have hs := hb.size
      generalize l[k]?.getD 0 = x at hx1 HS
      obtain ⟨vs, h1, h2, h3, h4, h5⟩ := hO
      have hvl : vs.length = n := by rw [h1, dealP_len]
      have hin : k % n < n := Nat.mod_lt _ (by omega)
      obtain ⟨-, -, g', -, eg, hcg, hfg, hgw⟩ := owns_cell h2.1 (by omega)
      cases eg
      have hck := hcg (k % n) (vs[k % n]?.getD undef) (by simp [hvl, hin])
      have hfk := hfg (k % n)
      have h3i := h3 (k % n) (by rw [dealP_len]; exact hin)
      have hrl := dealP_row_len n k (k % n) l hin
      obtain ⟨sv, cv, ev⟩ := h3i.slice
      rw [ev] at hck
      have hcI : (0 : Int) ≤ (k : Int) % n := by omega
      have hcI2 : (k : Int) % n < n := by omega
      have hmod : ((k : Int) % n).toNat = k % n := by omega
      go_wp2_with (at_builtin; refine stop_here ?_)
      refine go_on ?_
      rw [ev] at h3i
      have Hrl := Lib.hid hrl
      have g2f : ∀ j, (Value.slice sv ((dealP n l k)[k % n]?.getD []).length cv).ownBlock = some j → j ≠ w.heap.size := fun j hj e => h5 (k % n) j (by rw [dealP_len]; exact hin) (by rw [ev]; exact hj) (by rw [e]; rfl)
      refine wpList_app2 rfl _ _ 22 rfl 0 3 j0 _ 1 8 Try.underlying22 ji jz0 jz1 jz2 rfl (.slice sv ((dealP n l k)[k % n]?.getD []).length cv) ((dealP n l k)[k % n]?.getD []).length _ rfl (h3i.1.alloc (.cells #[.int .i64 x] 3)) (some ⟨wr.heap.size, 0, none⟩) 1 1 [.int .i64 x] rfl rfl (fun h => by cases h) (news_alloc wr [.int .i64 x] 3) (by simp [Value.oneCell']) (by have := Hrl.out; unfold maxLen; omega) (grow_ok (by have := Hrl.out; omega)) (Nat.zero_le _) ?_
      intro v' w2 g1 g20 _ g4
      have g2 : (wr.alloc (.cells #[.int .i64 x] 3)).grownBy w2 (Value.slice sv ((dealP n l k)[k % n]?.getD []).length cv).ownBlock := g20
      have hm2 : Mods (fun j => (vs[k % n]?.getD undef).ownBlock = some j) wr w2 := ((Mods.refl _ wr).alloc _).grown g2 (fun j hj _ => by rw [ev]; exact hj)
      have hgw2 : w2.heap[w.heap.size]? = wr.heap[w.heap.size]? := hm2.block _ hgw (fun e => by rw [ev] at e; exact g2f _ e rfl)
      have hck2 := (World.cell?_of_block (w := wr) (a := ⟨w.heap.size, k % n, none⟩) hgw2).trans hck
      have hfk2 := (World.frozen?_of_block (w := wr) (a := ⟨w.heap.size, k % n, none⟩) hgw2).trans hfk
      have hcol : ∀ j, v'.ownBlock = some j → canon w.heap.size K j = 1 := fun j hj => by
        rcases g4 with g4 | ⟨g4, _⟩
        · rw [g4] at hj; exact h3i.2 j hj
        · rw [g4] at hj
          have hj := Option.some.inj hj
          have hj : wr.heap.size + 1 = j := by simpa using hj
          exact canon_new (by omega) (by omega)
      have hO2 := Outs.set (v' := v') (l' := (dealP n l k)[k % n]?.getD [] ++ [x]) (w1 := w2) (i := k % n) h1 h2 h3 h4 (fun i B hi hB e => h5 i B hi hB (by rw [e]; rfl)) (by rw [dealP_len]; exact hin) hm2 (fun j _ f => f)
        ⟨by simpa using g1, hcol⟩ (by
          rcases g4 with g4 | ⟨g4, _⟩
          · left; rw [g4, ev]
          · right; intro j hj; rw [g4] at hj; have hj := Option.some.inj hj; have hj : wr.heap.size + 1 = j := (by simpa using hj); omega)
      rw [← HS.out] at hO2
      have hb2 : Below w.heap.size w (w2.setCell ⟨w.heap.size, k % n, none⟩ v') := (hb.trans (hm2.below hs (fun j hj f => by
        rw [ev] at f
        have h0 := h3i.2 j f
        have := (canon_is h0).1
        omega))).setCell (Nat.le_refl _) _
      obtain ⟨sv', cv', rfl⟩ := owns_slice g1
      have hmodI : (k : Int) % n = ((k % n : Nat) : Int) := by omega
      generalize ((dealP n l k)[k % n]?.getD []).length = rl at *
      clear h1 h2 h3 h4 h5 hcg hfg hb g1 g20 g2 g4 hm2 hgw2 hck hfk h3i hcol ev hmodI hcell
      go_wp2
      go_roundw
      case rel => exact ⟨k + 1, by omega, by go_num, hO2, hb2⟩
      case measure => simp [intOf]; omega
    · obtain rfl : k = l.length := by omega
      go_wp2
      go_ret2
      rw [HL.out, dealP_end] at hO
      exact ⟨_, rfl, Mods.of_below hb _, block_mods HK.out (Mods.of_below hb (fun _ => False)) (fun h => h), hO⟩
end Go.Proofs.Ytknmiiajeafjpaa
