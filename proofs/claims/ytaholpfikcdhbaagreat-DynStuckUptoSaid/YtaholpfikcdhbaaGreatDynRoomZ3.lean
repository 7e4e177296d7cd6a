/- What the kinds of actors do in a firing: copies, unweave. -/
import Derived.Test.YtaholpfikcdhbaaGreatDynRoomZ2
import Derived.TacticsIn
import Derived.Deep.QuietTactic
import Derived.Test.YtaholpfikcdhbaaGreatDynRoomZ1
namespace Go.Proofs.YtaholpfikcdhbaaGreat
open Go.RowKit
theorem made_rows (n : Nat) : (madeCells (Value.cells (.slice none 0 0)) (n * 1)).toList = List.replicate n (.slice none 0 0) := by
 rw [Nat.mul_one]
 simp [madeCells, Value.cells, Nat.mod_one, List.map_const']
theorem outs_made {w1 : World} {N K g n : Nat} (hown : w1.ownsRow N 27 1 (.slice (some ⟨g, 0, none⟩) n n) n (List.replicate n (.slice none 0 0))) (hK : K < N) : Outs w1 (canon N K) 1 (.slice (some ⟨g, 0, none⟩) n n) (List.replicate n []) := by
 have hrow : ∀ k, k < n → (List.replicate n (Value.slice none 0 0))[k]?.getD undef = .slice none 0 0 := fun k hk => by rw [List.getElem?_replicate, if_pos hk]; rfl
 refine ⟨List.replicate n (.slice none 0 0), by simp, ⟨by rw [List.length_replicate]; exact owns_base hown (fun _ _ => Nat.zero_le _), fun k hk => ?_⟩, fun k hk => ?_, fun i j B hij hj hB => ?_, fun i B hi hB => ?_⟩
 ·
  have := (hown.lt k hk).1
  exact canon_new this (by omega)
 ·
  rw [List.length_replicate] at hk
  rw [hrow k hk, List.getElem?_replicate, if_pos hk]
  exact Own.nil _ _ _ _ _
 ·
  rw [List.length_replicate] at hj
  rw [hrow i (by omega)] at hB
  simp [Value.ownBlock] at hB
 ·
  rw [List.length_replicate] at hi
  rw [hrow i hi] at hB
  simp [Value.ownBlock] at hB
theorem rep_set {α : Type} (n k : Nat) (x y : α) (h : k < n) : (List.replicate k x ++ List.replicate (n - k) y).set k x = List.replicate (k + 1) x ++ List.replicate (n - (k + 1)) y := by
 rw [List.set_append_right _ _ (by simp), List.replicate_succ', List.append_assoc]
 congr 1
 simp only [List.length_replicate, Nat.sub_self]
 obtain ⟨m, hm⟩ : ∃ m, n - k = m + 1 := ⟨n - k - 1, by omega⟩
 rw [hm, List.replicate_succ, show n - (k + 1) = m by omega]
 rfl
set_option maxRecDepth 100000 in
set_option maxHeartbeats 2000000 in
theorem copy_reck (w : World) (K : Nat) (vi vo nv insv : Value) (x : Int) (n : Nat) (lo : List Int) (hlo : lo.length = n) (hn : n ≤ 1000) (hK : w.heap[K]? = some (.cells #[vi, vo, nv] 201 (0, 0))) (hvo : Has w vo (ivs lo)) (hins : LL w insv [[x]]) :
  Calls Tryz.prog 168 #[.pointer (some ⟨K, 0, none⟩), insv] w (Reck w K 201 #[vi, vo, nv] (List.replicate n [x])) := by
 obtain ⟨iao, icp, rfl⟩ := hins.slice
 obtain ⟨bi, oi, ie, hci, hrow⟩ := hins.at (by simp)
 subst ie
 obtain ⟨a0, c0, hr0, hh0⟩ := hrow 0 (by simp)
 obtain ⟨b0, o0, e0, -, hc0, -, -, hcell⟩ := Vals.at hh0 (by simp)
 subst e0
 have hx0 := hcell 0 (by simp)
 simp at hr0 hx0 hc0 hci
 clear hcell hrow hh0 hins
 obtain ⟨oao, ocp, rfl⟩ := hvo.slice
 rw [ivs_len, hlo] at hK hvo ⊢
 clear hvo hlo
 have hk1 := cells_row w K hK 1 _ rfl
 simp at hk1
 obtain ⟨i0, hi, hz0, hz1, hz2⟩ := info_parts info_ints
 obtain ⟨w1, hr, hown, hg⟩ := run_make_full (P := Tryz.prog) w w.heap.size 28 27 i0 _ 1 Tryz.underlying28 hi hz0 hz1 .i64 .i64 n (by rw [hz2]; omega) (by unfold maxLen; omega) (Nat.le_refl _)
 have hb1 : Below w.heap.size w w1 := ((Mods.refl (fun _ => False) w).grown hg (fun k hk _ => by cases hk)).below (Nat.le_refl _) (fun _ _ h => h)
 rw [made_rows] at hown
 have hO := outs_made (K := K) hown (block_lt hK)
 have hs1 := hb1.size
 have hni : (n : Int) ≤ 1000 := by omega
 have HK := Lib.hid hK
 have hKw := block_lt hK
 clear hown hg hK
 go_enter Tryz.func168, Tryz.ntmps168
 go_wp2_with fail
 clear hr
 go_loopw [17] (fun i wr => ∃ k : Nat, k ≤ n ∧ i = .int .i64 k ∧ Outs wr (canon w.heap.size K) 1 (.slice (some ⟨w.heap.size, 0, none⟩) n n) (List.replicate k [x] ++ List.replicate (n - k) []) ∧ Below w.heap.size w wr) (fun i _ => n - (intOf i).toNat)
 case atStart => exact ⟨0, Nat.zero_le _, rfl, by simpa using hO, hb1⟩
 case round =>
  clear hO hb1 hs1
  obtain ⟨k, hk, rfl, hO, hb⟩ := hrel
  by_cases hlt : k < n
  ·
   have hlti : (k : Int) < n := by omega
   obtain ⟨vs, h1, h2, h3, h4, h5⟩ := hO
   have hvl : vs.length = n := by rw [h1]; simp; omega
   obtain ⟨-, -, g', -, eg, hcg, hfg, hgw⟩ := owns_cell h2.1 (by omega)
   cases eg
   have hcgk := ca (o := .cells #[.int .i64 x] 3) (hcg k vs[k] (by simp [hvl, hlt]))
   have hfgk : (wr.alloc (.cells #[.int .i64 x] 3)).frozen? ⟨w.heap.size, k, none⟩ = false := by
    have := hfg k
    rw [← World.frozen?_of_block (w := wr) (w' := wr.alloc (.cells #[.int .i64 x] 3)) (a := ⟨w.heap.size, k, none⟩) (Below.heap_alloc wr _ _ hgw)] at this
    exact this
   have hr1 := cell_later hb hr0
   have hx1 := cell_later hb hx0
   have hs := hb.size
   have hwn : wr.heap.size ≠ K := by omega
   have hO2 := Outs.set (v' := .slice (some ⟨wr.heap.size, 0, none⟩) 1 1) (l' := [x]) (w1 := wr.alloc (.cells #[.int .i64 x] 3)) (F := fun _ => False) (i := k) h1 h2 h3 h4 (fun i B hi hB e => h5 i B hi hB (by rw [e]; rfl)) (by simp; omega) ((Mods.refl _ wr).alloc _) (fun _ _ h => h.elim)
    ⟨owns_base (owns_lit wr [x] (by simp)) (fun _ _ => Nat.zero_le _), fun j hj => by obtain rfl := Option.some.inj hj; exact canon_new hs hwn⟩ (.inr fun j hj => by obtain rfl := Option.some.inj hj; exact Nat.le_refl _)
   rw [rep_set n k [x] [] hlt] at hO2
   have hb2 : Below w.heap.size w ((wr.alloc (.cells #[.int .i64 x] 3)).setCell ⟨w.heap.size, k, none⟩ (.slice (some ⟨wr.heap.size, 0, none⟩) 1 1)) := (hb.alloc hs _).setCell (Nat.le_refl _) _
   rw [World.setCell_alloc_past _ _ _ _ hgw] at hO2 hb2
   generalize vs[k] = vk at hcgk
   clear h1 h2 h3 h4 h5 hcg hfg hb hvl
   go_wp2
   go_roundw
   case rel => exact ⟨k + 1, by omega, by go_num, hO2, hb2⟩
   case measure => simp [intOf]; omega
  ·
   obtain rfl : k = n := by omega
   go_wp2
   go_ret2
   rw [Nat.sub_self, List.replicate_zero, List.append_nil] at hO
   exact ⟨_, rfl, Mods.of_below hb _, block_mods HK.out (Mods.of_below hb (fun _ => False)) (fun h => h), hO⟩
def dealP (n : Nat) (l : List Int) (k : Nat) : List (List Int) := (List.range n).map fun i => ((List.range k).filter (fun q => q % n == i)).map fun q => l[q]?.getD 0
def partP (n m : Nat) (l : List Int) : List (List Int) := (List.range n).map fun i => (List.range m).map fun j => l[j * n + i]?.getD 0
theorem dealP_len (n k : Nat) (l : List Int) : (dealP n l k).length = n := by simp [dealP]
theorem dealP_zero (n : Nat) (l : List Int) : dealP n l 0 = List.replicate n [] := by simp [dealP, List.map_const']
theorem dealP_get (n k i : Nat) (l : List Int) (hi : i < n) : (dealP n l k)[i]?.getD [] = ((List.range k).filter (fun q => q % n == i)).map fun q => l[q]?.getD 0 := by simp [dealP, hi]
theorem dealP_row_len (n k i : Nat) (l : List Int) (hi : i < n) : ((dealP n l k)[i]?.getD []).length ≤ k := by
 rw [dealP_get n k i l hi, List.length_map]
 have := List.length_filter_le (fun q => q % n == i) (List.range k)
 simpa using this
theorem dealP_step (n k : Nat) (l : List Int) (hn : 0 < n) : dealP n l (k + 1) = (dealP n l k).set (k % n) ((dealP n l k)[k % n]?.getD [] ++ [l[k]?.getD 0]) := by
 have hkn : k % n < n := Nat.mod_lt _ hn
 refine List.ext_getElem (by simp [dealP]) fun i h1 h2 => ?_
 have hi : i < n := by simpa [dealP] using h1
 rw [List.getElem_set]
 have e1 : (dealP n l (k + 1))[i] = ((List.range (k + 1)).filter (fun q => q % n == i)).map fun q => l[q]?.getD 0 := by simp [dealP]
 rw [e1, List.range_succ, List.filter_append, List.map_append]
 split
 ·
  rename_i he
  subst he
  rw [dealP_get n k _ l hi]
  simp
 ·
  rename_i he
  have e2 : (dealP n l k)[i]'(by simp [dealP, hi]) = ((List.range k).filter (fun q => q % n == i)).map fun q => l[q]?.getD 0 := by simp [dealP]
  rw [e2]
  simp [he]
theorem filter_mod (n m i : Nat) (hi : i < n) : (List.range (n * m)).filter (fun q => q % n == i) = (List.range m).map fun j => j * n + i := by
 induction m with
 | zero => simp
 | succ m ih =>
  have e : (List.range n).filter (fun q => (n * m + q) % n == i) = [i] := by
   have h0 : (List.range n).filter (fun q => (n * m + q) % n == i) = (List.range n).filter (fun q => q == i) := by
    refine List.filter_congr fun q hq => ?_
    have hq := List.mem_range.1 hq
    rw [Nat.mul_add_mod, Nat.mod_eq_of_lt hq]
   rw [h0]
   obtain ⟨r, rfl⟩ : ∃ r, n = i + (1 + r) := ⟨n - i - 1, by omega⟩
   rw [List.range_add, List.filter_append, List.filter_eq_nil_iff.2 (fun q hq => by have := List.mem_range.1 hq; simp; omega), List.range_add]
   simp only [List.map_append, List.filter_append, List.nil_append]
   have : (List.map (fun x => i + x) (List.map (fun x => 1 + x) (List.range r))).filter (fun q => q == i) = [] := List.filter_eq_nil_iff.2 fun q hq => by
    simp at hq
    obtain ⟨a, _, rfl⟩ := hq
    simp
   rw [this]
   simp
  rw [Nat.mul_succ, List.range_add, List.filter_append, ih, List.filter_map, List.range_succ, List.map_append]
  congr 1
  show List.map _ ((List.range n).filter (fun q => (n * m + q) % n == i)) = _
  rw [e]
  simp [Nat.mul_comm]
theorem dealP_end (n m : Nat) (l : List Int) : dealP n l (n * m) = partP n m l := by
 unfold dealP partP
 refine List.map_congr_left fun i hi => ?_
 rw [filter_mod n m i (List.mem_range.1 hi), List.map_map]
 rfl
set_option maxRecDepth 100000 in
set_option maxHeartbeats 4000000 in
theorem unw_reck (w : World) (K : Nat) (vi vo nv insv : Value) (n m : Nat) (l lo : List Int) (hlo : lo.length = n) (hn : 1 ≤ n) (hn2 : n ≤ 16) (hm : m ≤ 64) (hl : l.length = n * m) (hK : w.heap[K]? = some (.cells #[vi, vo, nv] 190 (0, 0))) (hvo : Has w vo (ivs lo)) (hins : LL w insv [l]) :
  Calls Tryz.prog 161 #[.pointer (some ⟨K, 0, none⟩), insv] w (Reck w K 190 #[vi, vo, nv] (partP n m l)) := by
 obtain ⟨j0, ji, jz0, jz1, jz2⟩ := info_parts info_int
 have hnm : n * m ≤ 16 * 64 := Nat.mul_le_mul hn2 hm
 obtain ⟨iao, icp, rfl⟩ := hins.slice
 obtain ⟨bi, oi, ie, hci, hrow⟩ := hins.at (by simp)
 subst ie
 obtain ⟨a0, c0, hr0, hh0⟩ := hrow 0 (by simp)
 simp at hr0 hci
 simp only [List.getElem?_cons_zero, Option.getD_some] at hh0
 have HH := Lib.hid hh0
 clear hrow hh0 hins
 obtain ⟨oao, ocp, rfl⟩ := hvo.slice
 rw [ivs_len, hlo] at hK hvo ⊢
 clear hvo hlo
 have hk1 := cells_row w K hK 1 _ rfl
 simp at hk1
 obtain ⟨i0, hi, hz0, hz1, hz2⟩ := info_parts info_ints
 obtain ⟨w1, hr, hown, hg⟩ := run_make_full (P := Tryz.prog) w w.heap.size 28 27 i0 _ 1 Tryz.underlying28 hi hz0 hz1 .i64 .i64 n (by rw [hz2]; omega) (by unfold maxLen; omega) (Nat.le_refl _)
 have hb1 : Below w.heap.size w w1 := ((Mods.refl (fun _ => False) w).grown hg (fun k hk _ => by cases hk)).below (Nat.le_refl _) (fun _ _ h => h)
 rw [made_rows] at hown
 have hO := outs_made (K := K) hown (block_lt hK)
 rw [← dealP_zero n l] at hO
 have hr1 := cell_later hb1 hr0
 have hs1 := hb1.size
 have hni : (n : Int) ≤ 16 := by omega
 have hni1 : (1 : Int) ≤ n := by omega
 have HK := Lib.hid hK
 have hKw := block_lt hK
 have hlb : l.length ≤ 1024 := by omega
 have hlbi : (l.length : Int) ≤ 1024 := by omega
 have HL := Lib.hid hl
 clear hown hg hK hl
 go_enter Tryz.func161, Tryz.ntmps161
 go_wp2_with fail
 clear hr
 go_loopw [21] (fun i wr => ∃ k : Nat, k ≤ l.length ∧ i = .int .i64 k ∧ Outs wr (canon w.heap.size K) 1 (.slice (some ⟨w.heap.size, 0, none⟩) n n) (dealP n l k) ∧ Below w.heap.size w wr) (fun i _ => l.length - (intOf i).toNat)
 case atStart => exact ⟨0, Nat.zero_le _, rfl, hO, hb1⟩
 case round =>
  clear hO hb1 hs1 hr1
  obtain ⟨k, hk, rfl, hO, hb⟩ := hrel
  by_cases hlt : k < l.length
  ·
   have hlti : (k : Int) < l.length := by omega
   obtain ⟨b0, o0, e0, -, hc0, -, -, hcell⟩ := Vals.at HH.out (by simp; omega)
   subst e0
   have hx0 := hcell k (by simp; omega)
   rw [ivs_get hlt] at hx0
   have hx1 := cell_later hb hx0
   have HS := Lib.hid (dealP_step n k l (by omega))
   have hs := hb.size
   generalize l[k]?.getD 0 = x at hx1 HS
   obtain ⟨vs, h1, h2, h3, h4, h5⟩ := hO
   have hvl : vs.length = n := by rw [h1, dealP_len]
   have hin : k % n < n := Nat.mod_lt _ (by omega)
   obtain ⟨-, -, g', -, eg, hcg, hfg, hgw⟩ := owns_cell h2.1 (by omega)
   cases eg
   have hck := hcg (k % n) (vs[k % n]?.getD undef) (by simp [hvl, hin])
   have hfk := hfg (k % n)
   have h3i := h3 (k % n) (by rw [dealP_len]; exact hin)
   have hrl := dealP_row_len n k (k % n) l hin
   obtain ⟨sv, cv, ev⟩ := h3i.slice
   rw [ev] at hck
   have hcI : (0 : Int) ≤ (k : Int) % n := by omega
   have hcI2 : (k : Int) % n < n := by omega
   have hmod : ((k : Int) % n).toNat = k % n := by omega
   go_wp2_with (at_builtin; refine stop_here ?_)
   refine go_on ?_
   rw [ev] at h3i
   have Hrl := Lib.hid hrl
   have g2f : ∀ j, (Value.slice sv ((dealP n l k)[k % n]?.getD []).length cv).ownBlock = some j → j ≠ w.heap.size := fun j hj e => h5 (k % n) j (by rw [dealP_len]; exact hin) (by rw [ev]; exact hj) (by rw [e]; rfl)
   refine wpList_app2 rfl _ _ 27 rfl 0 3 j0 _ 1 8 Tryz.underlying27 ji jz0 jz1 jz2 rfl (.slice sv ((dealP n l k)[k % n]?.getD []).length cv) ((dealP n l k)[k % n]?.getD []).length _ rfl (h3i.1.alloc (.cells #[.int .i64 x] 3)) (some ⟨wr.heap.size, 0, none⟩) 1 1 [.int .i64 x] rfl rfl (fun h => by cases h) (news_alloc wr [.int .i64 x] 3) (by simp [Value.oneCell']) (by have := Hrl.out; unfold maxLen; omega) (grow_ok (by have := Hrl.out; omega)) (Nat.zero_le _) ?_
   intro v' w2 g1 g20 _ g4
   have g2 : (wr.alloc (.cells #[.int .i64 x] 3)).grownBy w2 (Value.slice sv ((dealP n l k)[k % n]?.getD []).length cv).ownBlock := g20
   have hm2 : Mods (fun j => (vs[k % n]?.getD undef).ownBlock = some j) wr w2 := ((Mods.refl _ wr).alloc _).grown g2 (fun j hj _ => by rw [ev]; exact hj)
   have hgw2 : w2.heap[w.heap.size]? = wr.heap[w.heap.size]? := hm2.block _ hgw (fun e => by rw [ev] at e; exact g2f _ e rfl)
   have hck2 := (World.cell?_of_block (w := wr) (a := ⟨w.heap.size, k % n, none⟩) hgw2).trans hck
   have hfk2 := (World.frozen?_of_block (w := wr) (a := ⟨w.heap.size, k % n, none⟩) hgw2).trans hfk
   have hcol : ∀ j, v'.ownBlock = some j → canon w.heap.size K j = 1 := fun j hj => by
    rcases g4 with g4 | ⟨g4, _⟩
    ·
     rw [g4] at hj; exact h3i.2 j hj
    ·
     rw [g4] at hj
     have hj := Option.some.inj hj
     have hj : wr.heap.size + 1 = j := by simpa using hj
     exact canon_new (by omega) (by omega)
   have hO2 := Outs.set (v' := v') (l' := (dealP n l k)[k % n]?.getD [] ++ [x]) (w1 := w2) (i := k % n) h1 h2 h3 h4 (fun i B hi hB e => h5 i B hi hB (by rw [e]; rfl)) (by rw [dealP_len]; exact hin) hm2 (fun j _ f => f)
    ⟨by simpa using g1, hcol⟩ (by
     rcases g4 with g4 | ⟨g4, _⟩
     ·
      left; rw [g4, ev]
     ·
      right; intro j hj; rw [g4] at hj; have hj := Option.some.inj hj; have hj : wr.heap.size + 1 = j := (by simpa using hj); omega)
   rw [← HS.out] at hO2
   have hb2 : Below w.heap.size w (w2.setCell ⟨w.heap.size, k % n, none⟩ v') := (hb.trans (hm2.below hs (fun j hj f => by
    rw [ev] at f
    have h0 := h3i.2 j f
    have := (canon_is h0).1
    omega))).setCell (Nat.le_refl _) _
   obtain ⟨sv', cv', rfl⟩ := owns_slice g1
   have hmodI : (k : Int) % n = ((k % n : Nat) : Int) := by omega
   generalize ((dealP n l k)[k % n]?.getD []).length = rl at *
   clear h1 h2 h3 h4 h5 hcg hfg hb g1 g20 g2 g4 hm2 hgw2 hck hfk h3i hcol ev hmodI hcell
   go_wp2
   go_roundw
   case rel => exact ⟨k + 1, by omega, by go_num, hO2, hb2⟩
   case measure => simp [intOf]; omega
  ·
   obtain rfl : k = l.length := by omega
   go_wp2
   go_ret2
   rw [HL.out, dealP_end] at hO
   exact ⟨_, rfl, Mods.of_below hb _, block_mods HK.out (Mods.of_below hb (fun _ => False)) (fun h => h), hO⟩
end Go.Proofs.YtaholpfikcdhbaaGreat

/- What the kinds of actors do in a firing: filter. -/
namespace Go.Proofs.YtaholpfikcdhbaaGreat
open Go.RowKit
def ReckF (w : World) (K : Nat) (vi vo nv vt : Value) (keep : List Int) (y : Int) (e : Ending) (w' : World) : Prop :=
 ∃ ov R cp, e = .returned (.tuple #[ov, .bool true]) ∧ Mods (fun k => k = K) w w' ∧ w'.heap[K]? = some (.cells #[vi, vo, nv, vt, .slice (some ⟨R, 0, none⟩) keep.length cp] 181 (0, 0)) ∧ Has w' (.slice (some ⟨R, 0, none⟩) keep.length cp) (ivs keep) ∧ w.heap.size ≤ R ∧ R < w'.heap.size ∧ Outs w' (canon w.heap.size R) 1 ov [[y]]
def ReckFOpt (w : World) (K : Nat) (vi vo nv vt : Value) (keep : List Int) (r : Option Int) (e : Ending) (w' : World) : Prop :=
 match r with
 | some y => ReckF w K vi vo nv vt keep y e w'
 | none => ReckNo w e w'
theorem Vals.cut {w : World} {o : Col} {c : Nat} {ao : Option Addr} {n cap : Nat} {vs : List Value} (h : Vals w o c (.slice ao n cap) vs) (k : Nat) (hk : k ≤ vs.length) : Vals w o c (.slice ao k cap) (vs.take k) := by
 have hl : (vs.take k).length = k := by rw [List.length_take]; omega
 by_cases hp : 0 < k
 ·
  obtain ⟨b, off, rfl, hn, hc, hb, ho, hcl⟩ := h.at (by omega)
  refine .inr ⟨by omega, b, off, cap, by rw [hl], by omega, hb, ho, fun j hj => ?_⟩
  rw [hl] at hj
  rw [hcl j (by omega), List.getElem?_take, if_pos hj]
 ·
  obtain rfl : k = 0 := by omega
  exact .inl ⟨by simp, ao, cap, rfl⟩
set_option maxRecDepth 100000 in
set_option maxHeartbeats 4000000 in
theorem filter_reck (w : World) (K : Nat) (vi vo nv vt vs insv : Value) (x : Int) (taps keep : List Int) (htk : taps.length = keep.length + 1) (hn : taps.length ≤ 16) (hfx : Fits x) (hft : ∀ a ∈ taps, Fits a) (hfk : ∀ a ∈ keep, Fits a)
  (hK : w.heap[K]? = some (.cells #[vi, vo, nv, vt, vs] 181 (0, 0))) (hvt : Has w vt (ivs taps)) (hvs : Has w vs (ivs keep)) (hins : LL w insv [[x]]) :
  Calls Tryz.prog 151 #[.pointer (some ⟨K, 0, none⟩), insv] w (ReckFOpt w K vi vo nv vt ((x :: keep).take keep.length) (dotP 0 taps (x :: keep))) := by
 obtain ⟨i0, hi, hz0, hz1, hz2⟩ := info_parts info_int
 obtain ⟨iao, icp, rfl⟩ := hins.slice
 obtain ⟨bi, oi, ie, hci, hrow⟩ := hins.at (by simp)
 subst ie
 obtain ⟨a0, c0, hr0, hh0⟩ := hrow 0 (by simp)
 obtain ⟨b0, o0, e0, -, hc0, -, -, hcell⟩ := Vals.at hh0 (by simp)
 subst e0
 have hx0 := hcell 0 (by simp)
 simp at hr0 hx0 hc0 hci
 clear hcell hrow hh0 hins
 obtain ⟨sao, scp, rfl⟩ := hvs.slice
 obtain ⟨tao, tcp, rfl⟩ := hvt.slice
 simp only [ivs_len] at hvs hvt hK ⊢
 have k3 := cells_row w K hK 3 (.slice tao taps.length tcp) rfl
 have k4 := cells_row w K hK 4 (.slice sao keep.length scp) rfl
 obtain ⟨snone, snews⟩ := hvs.news
 have HT := Lib.hid hvt
 have HTK := Lib.hid htk
 have HN := Lib.hid hn
 have HFX := Lib.hid hfx
 have HFT := Lib.hid hft
 have HFK := Lib.hid hfk
 have HK := Lib.hid hK
 have hKw := block_lt hK
 have Hsnone := Lib.hid snone
 have Hsnews := Lib.hid snews
 have hkl : keep.length ≤ 15 := by omega
 have hkli : (keep.length : Int) ≤ 15 := by omega
 clear hvs hvt htk hn hfx hft hfk hK snone snews
 go_enter Tryz.func151, Tryz.ntmps151
 go_wp2_with fail
 refine wp_region_lex (fun w' => w'.cell? ⟨bi, oi, none⟩ = some (.slice (some ⟨b0, o0, none⟩) 1 c0) ∧ w'.cell? ⟨b0, o0, none⟩ = some (.int .i64 x) ∧ w'.cell? ⟨K, 4, none⟩ = some (.slice sao keep.length scp)) [0, 1, 2, 3, 4, 6, 7, 8, 9] [5, 10, 11] (by kernel_rfl) (by kernel_rfl) rfl (fun _ _ hx h => ⟨hx.cell h.1, hx.cell h.2.1, hx.cell h.2.2⟩) ⟨hr0, hx0, k4⟩ ?_
 intro Q' hQ'
 simp only [pickOps, List.flatMap_cons, List.flatMap_nil, List.drop_succ_cons, List.drop_zero, List.take_succ_cons, List.take_zero, List.cons_append, List.nil_append, List.append_nil]
 repeat (first
  | (refine wpReads_skip (by rfl) ?_; (try simp only [Act.put, List.setIfInBounds_toArray, List.set_cons_zero, List.set_cons_succ]))
  | (refine wpReads_cons ?_ (by rfl) (by rfl) ?_ ?_; rotate_left; (intro wz hz; (try dsimp only at hz); go_simp; try with_reducible rfl); (try simp only [Act.put, List.setIfInBounds_toArray, List.set_cons_zero, List.set_cons_succ]))
  | (refine wpReads_any ?_ (by rfl) ?_ ?_; rotate_left; (intro wz; go_simp; try with_reducible rfl); (try simp only [Act.put, List.setIfInBounds_toArray, List.set_cons_zero, List.set_cons_succ])))
 refine wpReads_nil ?_
 refine wpList_plain rfl fun K hK => ?_
 go_simp
 refine hK _ _ ?_
 clear hK K
 have hown0 := owns_base (owns_lit w.drew [x] (by simp)) (base' := w.heap.size) (fun k hk => by have e : w.heap.size = k := Option.some.inj hk; omega)
 refine wpList_app rfl _ _ 27 rfl w.heap.size 3 i0 _ 1 8 Tryz.underlying27 hi hz0 hz1 hz2 rfl (.slice (some ⟨w.heap.size, 0, none⟩) 1 1) 1 _ rfl hown0 sao keep.length scp (ivs keep) rfl (by simp) Hsnone.out (fun ad had j u hu => ca (w := w.drew) (Hsnews.out ad had j u hu)) (ivs_one keep) (by unfold maxLen; omega) (grow_ok (by omega)) (by simp) ?_
 intro v' w2 g1 g20 g3 _
 have g2 : (w.drew.alloc (.cells (ivs [x]).toArray 3)).grownBy w2 (Value.slice (some ⟨w.heap.size, 0, none⟩) 1 1).ownBlock := g20
 have hb2 : Below w.heap.size w w2 := ((((Mods.refl (fun _ => False) w).drew).alloc (.cells (ivs [x]).toArray 3)).grown g2 (fun k hk hlt => by have e : w.heap.size = k := Option.some.inj hk; omega)).below (Nat.le_refl _) (fun _ _ h => h)
 have hne : v' ≠ .slice none 0 0 := fun e => by have := (g3.1 e).1; cases this
 have g1' : w2.ownsRow w.heap.size 3 1 v' (x :: keep).length (ivs (x :: keep)) := by
  rw [List.length_cons, Nat.add_comm keep.length 1]; exact g1
 obtain ⟨R, cp, rfl⟩ : ∃ R cp, v' = .slice (some ⟨R, 0, none⟩) (x :: keep).length cp := by
  rcases g1'.2 with ⟨e, _⟩ | ⟨g, cp, cur, e, _⟩
  ·
   exact absurd e hne
  ·
   exact ⟨g, cp, e⟩
 obtain ⟨_, hcp, gR, hRn, eR, hcR, _, hRlt⟩ := owns_cell g1' (by simp)
 cases eR
 have hrowI := (Own.made (fun _ => 0) 0 g1').vals.has
 have k3b := cell_later hb2 k3
 have k4b := cell_later hb2 k4
 have HT2 := Lib.hid (HT.out.below hb2)
 have hK2 := block_mods HK.out (Mods.of_below hb2 (fun _ => False)) (fun h => h)
 have kf2 := frozen_of_block hK2 4
 have hs2 := hb2.size
 simp only [List.length_cons] at hcp hrowI g1' ⊢
 have hcpi : (keep.length : Int) + 1 ≤ cp := by omega
 clear g1 g20 g2 g3 hne hown0
 obtain ⟨D, hD⟩ : ∃ D, dotP 0 taps (x :: keep) = D := ⟨_, rfl⟩
 go_wp2_with fail
 have HD := Lib.hid hD
 clear hD
 refine (dot_any (xs := taps) (ys := x :: keep) _ _ _ _ _ _ _ HT2.out hrowI (by simpa using HTK.out) (by have := HN.out; omega) HFT.out (fun a ha => by rcases List.mem_cons.1 ha with rfl | ha; exact HFX.out; exact HFK.out a ha)).mono ?_
 rintro e w3 ⟨rfl, rfl⟩
 rw [HD.out]
 unfold optB
 have G1 := Lib.hid g1'
 have CR := Lib.hid hcR
 have HR0 := Lib.hid hrowI
 clear g1' hcR hrowI
 cases D with
 | none =>
  go_wp2
  go_ret2
  rw [HD.out]
  exact reckno rfl ((hb2.alloc hs2 _).alloc (by simp; omega) _)
 | some y =>
  go_wp2
  go_ret2
  obtain ⟨h1, h2⟩ := reck_set (w1 := w2) (Mods.of_below hb2 _) HK.out 4 (.slice (some ⟨R, 0, none⟩) keep.length cp)
  have hsz : (w2.setCell ⟨K, 4, none⟩ (.slice (some ⟨R, 0, none⟩) keep.length cp)).heap.size = w2.heap.size := size_setCell' _ _ _
  have ho := owns_base (owns_lit (w2.setCell ⟨K, 4, none⟩ (.slice (some ⟨R, 0, none⟩) keep.length cp)) [y] (by simp)) (base' := w.heap.size) (fun k hk => by have e := Option.some.inj hk; rw [hsz] at e; have e : w2.heap.size = k := e; omega)
  have hO := outs_row (w1 := (w2.setCell ⟨K, 4, none⟩ (.slice (some ⟨R, 0, none⟩) keep.length cp)).alloc (.cells (ivs [y]).toArray 3)) (N := w.heap.size) (R := R) ho (by simp; omega) (fun e => by have e := Option.some.inj e; rw [hsz] at e; have e : w2.heap.size = R := e; omega) (by simp; omega)
  have hm3 : Mods (fun k => k = K) w2 (((w2.setCell ⟨K, 4, none⟩ (.slice (some ⟨R, 0, none⟩) keep.length cp)).alloc (.cells #[.int .i64 y] 3)).alloc (.cells #[.slice (some ⟨w2.heap.size, 0, none⟩) 1 1] 27)) := (((Mods.refl (fun k => k = K) w2).setCell (p := ⟨K, 4, none⟩) (fun _ => rfl) _).alloc _).alloc _
  have T : Turn (ext (fun _ => 0) w.heap.size 1) (ext (fun _ => 0) w.heap.size 1) (fun c => c = 0) w2 _ := ⟨hm3.mono (fun k _ e => by rw [e, ext_old hKw]), fun _ _ => rfl⟩
  have hseen := (((Own.made (fun _ => 0) 1 G1.out).vals.turn T (by decide)).cut keep.length (by simp)).has
  rw [show (ivs (x :: keep)).take keep.length = ivs ((x :: keep).take keep.length) by rw [← List.map_take]] at hseen
  rw [HD.out]
  have hkt : ((x :: keep).take keep.length).length = keep.length := by rw [List.length_take, List.length_cons]; omega
  simp only [World.size_alloc, hsz] at hO
  refine ⟨_, R, cp, rfl, (h1.alloc _).alloc _, ?_, ?_, hRn, by simp; omega, hO⟩
  ·
   rw [hkt]; exact block_alloc (block_alloc h2 _) _
  ·
   rw [hkt]; exact hseen
end Go.Proofs.YtaholpfikcdhbaaGreat

/- An actor in memory: what it holds, and the calls that only look: Fired, State, Shape. -/
namespace Go.Proofs.YtaholpfikcdhbaaGreat
open Go.RowKit
structure BodyAt (w : World) (o : Col) (c d b : Nat) (t : Int) (ps keep : List Int) (n : Int) (K : Nat) (vi vo vt vs : Value) : Prop where
 body : Blk w o d b 156 #[.iface (kP t) (.pointer (some ⟨K, 0, none⟩))]
 kind : Blk w o c K (kS t) (kcells t vi vo n (hd keep) (hd1 ps) vt vs)
 ins : Ints w o d vi (insP t ps)
 outs : Ints w o d vo (outsP t ps)
 taps : t = 1 → Ints w o d vt ps ∧ Ints w o d vs keep ∧ ps.length = keep.length + 1
 good : goodP t ps
 fitp : ∀ x ∈ ps, Fits x
 fitk : ∀ x ∈ keep, Fits x
 keep1 : t = 8 ∨ t = 10 → keep.length = 1
 keep2 : t ≠ 1 → t ≠ 8 → t ≠ 10 → keep = []
 fitn : Fits n
 ne : c ≠ d
theorem BodyAt.turn {w w' : World} {o o' : Col} {C : Nat → Prop} {c d b : Nat} {t : Int} {ps keep : List Int} {n : Int} {K : Nat} {vi vo vt vs : Value} (h : BodyAt w o c d b t ps keep n K vi vo vt vs) (T : Turn o o' C w w') (hc : ¬ C c) (hd : ¬ C d) : BodyAt w' o' c d b t ps keep n K vi vo vt vs :=
 ⟨h.body.turn T hd, h.kind.turn T hc, h.ins.turn T hd, h.outs.turn T hd, fun e => ⟨(h.taps e).1.turn T hd, (h.taps e).2.1.turn T hd, (h.taps e).2.2⟩, h.good, h.fitp, h.fitk, h.keep1, h.keep2, h.fitn, h.ne⟩
def Rated (w : World) (is os : List Int) (e : Ending) (w' : World) : Prop :=
 ∃ g1 c1 g2 c2, e = .returned (.tuple #[.slice (some ⟨g1, 0, none⟩) is.length c1, .slice (some ⟨g2, 0, none⟩) os.length c2]) ∧ w'.ownsRow w.heap.size 3 1 (.slice (some ⟨g1, 0, none⟩) is.length c1) is.length (ivs is) ∧ w'.ownsRow w.heap.size 3 1 (.slice (some ⟨g2, 0, none⟩) os.length c2) os.length (ivs os) ∧ g1 ≠ g2 ∧ Below w.heap.size w w'
set_option maxRecDepth 100000 in
set_option maxHeartbeats 1000000 in
theorem rates_any (w : World) (K : Nat) (vi vo : Value) (is os : List Int) (h0 : w.cell? ⟨K, 0, none⟩ = some vi) (h1 : w.cell? ⟨K, 1, none⟩ = some vo) (hi : Has w vi (ivs is)) (ho : Has w vo (ivs os)) (hni : is.length ≤ 1000000) (hno : os.length ≤ 1000000) : Calls Tryz.prog 150 #[.pointer (some ⟨K, 0, none⟩)] w (Rated w is os) := by
 obtain ⟨ai, ci, rfl⟩ := hi.slice
 obtain ⟨ao, co, rfl⟩ := ho.slice
 simp only [ivs_len] at hi ho h0 h1
 have HI := Lib.hid hi
 have HO := Lib.hid ho
 clear hi ho
 go_enter Tryz.func150, Tryz.ntmps150
 go_wp2
 refine wp_region_rest (fun w' => w'.cell? ⟨K, 0, none⟩ = some (.slice ai is.length ci) ∧ w'.cell? ⟨K, 1, none⟩ = some (.slice ao os.length co)) [0, 1, 2, 3, 5, 6, 7, 8] [4] 4 (by kernel_rfl) (by kernel_rfl) rfl ⟨h0, h1⟩ ?_
 intro Q' hQ'
 simp only [pickOps, List.flatMap_cons, List.flatMap_nil, List.drop_succ_cons, List.drop_zero, List.take_succ_cons, List.take_zero, List.cons_append, List.nil_append, List.append_nil]
 repeat (first
  | (refine wpReads_skip (by rfl) ?_; (try simp only [Act.put, List.setIfInBounds_toArray, List.set_cons_zero, List.set_cons_succ]))
  | (refine wpReads_cons ?_ (by rfl) (by rfl) ?_ ?_; rotate_left; (intro wz hz; (try dsimp only at hz); go_simp; try with_reducible rfl); (try simp only [Act.put, List.setIfInBounds_toArray, List.set_cons_zero, List.set_cons_succ]))
  | (refine wpReads_any ?_ (by rfl) ?_ ?_; rotate_left; (intro wz; go_simp; try with_reducible rfl); (try simp only [Act.put, List.setIfInBounds_toArray, List.set_cons_zero, List.set_cons_succ])))
 refine wpReads_nil ?_
 refine wpAnyT_one (i := 4) (by kernel_rfl) ?_
 simp only [pickOps, List.flatMap_cons, List.flatMap_nil, List.drop_succ_cons, List.drop_zero, List.take_succ_cons, List.take_zero, List.append_nil]
 have HI1 : Hid (Has w.drew (.slice ai is.length ci) (ivs is)) := Lib.hid (HI.out.drewN 1)
 go_wp2_with fail
 refine (clone_any _ _ _ _ is HI1.out (by omega)).mono ?_
 rintro e w1 ⟨g1, c1, rfl, ho1, hb1⟩
 have hb1 : Below w.heap.size w w1 := below_ld (n := 1) hb1
 have HO1 := Lib.hid ho1
 have HO2 := Lib.hid (HO.out.below hb1)
 clear ho1
 go_wp2
 refine ⟨fun _ hS => ⟨cell_later hb1 h0, cell_later hb1 h1⟩, ?_⟩
 refine wpAnyT_list (ks := [9, 10, 11]) (fun _ _ hx h => ⟨hx.cell h.1, hx.cell h.2⟩) (by kernel_rfl) ?_
 simp only [pickOps, List.flatMap_cons, List.flatMap_nil, List.drop_succ_cons, List.drop_zero, List.take_succ_cons, List.take_zero, List.cons_append, List.nil_append, List.append_nil]
 go_wp2_with fail
 refine (clone_any _ _ _ _ os HO2.out (by omega)).mono ?_
 rintro e w2 ⟨g2, c2, rfl, ho2, hb2⟩
 have HOO2 := Lib.hid ho2
 have HB2 := Lib.hid hb2
 clear ho2 hb2
 go_wp2
 go_ret2
 refine ⟨g1, c1, g2, c2, rfl, owns_kept HO1.out (Mods.of_below HB2.out (fun _ => False)) (fun _ _ h => h), owns_base HOO2.out (fun k hk => ?_), ?_, hb1.trans (HB2.out.mono hb1.size)⟩
 ·
  have := (HOO2.out.lt k hk).1
  have := hb1.size
  omega
 ·
  rintro rfl
  have h1 := (HO1.out.lt g1 rfl).2
  have h2 := (HOO2.out.lt g1 rfl).1
  omega
theorem cfired_any (w : World) (K : Nat) (n : Int) (h : w.cell? ⟨K, 2, none⟩ = some (.int .i64 n)) (hf : w.frozen? ⟨K, 2, none⟩ = false) (hn : Fits (n + 1)) : Calls Tryz.prog 148 #[.pointer (some ⟨K, 0, none⟩)] w fun e w' => e = .returned (.tuple #[]) ∧ w' = w.setCell ⟨K, 2, none⟩ (.int .i64 (n + 1)) := by
 have hw : IntKind.i64.wrap (n + 1) = n + 1 := IntWalk.i64_in _ hn
 go_enter Tryz.func148, Tryz.ntmps148
 go_wp2
 go_end0
 exact ⟨rfl, rfl⟩
end Go.Proofs.YtaholpfikcdhbaaGreat

/- An actor at work: Shape, State, reckon by tag. -/
namespace Go.Proofs.YtaholpfikcdhbaaGreat
open Go.RowKit
theorem BodyAt.tag {w : World} {o : Col} {c d b : Nat} {t : Int} {ps keep : List Int} {n : Int} {K : Nat} {vi vo vt vs : Value} (h : BodyAt w o c d b t ps keep n K vi vo vt vs) : TagOk t := goodP_cases h.good
theorem kcells_get (t : Int) (vi vo : Value) (n x b : Int) (vt vs : Value) (ht : TagOk t) : (kcells t vi vo n x b vt vs)[0]? = some vi ∧ (kcells t vi vo n x b vt vs)[1]? = some vo ∧ (kcells t vi vo n x b vt vs)[2]? = some (.int .i64 n) := by
 rcases ht with rfl | rfl | rfl | rfl | rfl | rfl | rfl | rfl | rfl | rfl | rfl <;> exact ⟨rfl, rfl, rfl⟩
theorem kcells_next (t : Int) (vi vo : Value) (n m x b : Int) (vt vs : Value) (ht : TagOk t) : (kcells t vi vo n x b vt vs).setIfInBounds 2 (.int .i64 m) = kcells t vi vo m x b vt vs := by
 rcases ht with rfl | rfl | rfl | rfl | rfl | rfl | rfl | rfl | rfl | rfl | rfl <;> rfl
theorem rates_len {t : Int} {ps : List Int} (h : goodP t ps) : (insP t ps).length ≤ 64 ∧ (outsP t ps).length ≤ 64 := by
 unfold goodP pairP oneP at h
 unfold insP outsP
 constructor <;> (repeat' split) <;> simp <;> omega
theorem Shape_body {w : World} {o : Col} {c d b : Nat} {t : Int} {ps keep : List Int} {n : Int} {K : Nat} {vi vo vt vs : Value} (h : BodyAt w o c d b t ps keep n K vi vo vt vs) : Calls Tryz.prog 44 #[.pointer (some ⟨b, 0, none⟩)] w (Rated w (insP t ps) (outsP t ps)) := by
 have hb := h.body.cell 0 _ rfl
 have h0 := h.kind.cell 0 _ (kcells_get t vi vo n _ _ vt vs h.tag).1
 have h1 := h.kind.cell 1 _ (kcells_get t vi vo n _ _ vt vs h.tag).2.1
 have hm := disp_rates h.tag K
 have hl := rates_len h.good
 have HI := Lib.hid h.ins.has
 have HO := Lib.hid h.outs.has
 clear h
 go_enter Tryz.func44, Tryz.ntmps44
 go_wp2_with fail
 refine (rates_any _ K _ _ _ _ h0 h1 HI.out HO.out (by omega) (by omega)).mono ?_
 rintro e w1 ⟨g1, c1, g2, c2, rfl, r1, r2, r3, r4⟩
 have R1 := Lib.hid r1
 have R2 := Lib.hid r2
 clear r1 r2 hm
 go_wp2
 go_ret2
 exact ⟨g1, c1, g2, c2, rfl, R1.out, R2.out, r3, r4⟩
def Stated (w : World) (keep : List Int) (e : Ending) (w' : World) : Prop :=
 ∃ v, e = .returned v ∧ w'.ownsRow w.heap.size 3 1 v keep.length (ivs keep) ∧ Below w.heap.size w w'
end Go.Proofs.YtaholpfikcdhbaaGreat

/- What a firing reckons, by tag. -/
namespace Go.Proofs.YtaholpfikcdhbaaGreat
open Go.RowKit
def reckP (t : Int) (ps keep : List Int) (xss : List (List Int)) : Option (List (List Int) × List Int) :=
 if t = 1 then (dotP 0 ps (hd (xss[0]?.getD []) :: keep)).map fun y => ([[y]], (hd (xss[0]?.getD []) :: keep).take keep.length)
 else if t = 2 then some ([hd (xss[0]?.getD []) :: List.replicate ((hd ps).toNat - 1) 0], keep)
 else if t = 3 then some ([[hd (xss[0]?.getD [])]], keep)
 else if t = 4 then some ([weaveP xss (hd1 ps).toNat], keep)
 else if t = 5 then some (partP (hd ps).toNat (hd1 ps).toNat (xss[0]?.getD []), keep)
 else if t = 6 then (sumP 0 (firsts xss)).map fun y => ([[y]], keep)
 else if t = 7 then (quotP (hd (xss[0]?.getD [])) (hd (xss[1]?.getD []))).map fun y => ([[y]], keep)
 else if t = 8 then (if Fits (hd keep + hd (xss[0]?.getD [])) then some ([[hd keep + hd (xss[0]?.getD [])]], [hd keep + hd (xss[0]?.getD [])]) else none)
 else if t = 9 then some (List.replicate (hd ps).toNat [hd (xss[0]?.getD [])], keep)
 else if t = 10 then (if Fits (hd keep + hd1 ps) then some ([[hd keep]], [hd keep + hd1 ps]) else none)
 else some ([], keep)
def Reckoned (w : World) (o : Col) (c d E b : Nat) (t : Int) (ps : List Int) (n : Int) (K : Nat) (vi vo vt : Value) (r : Option (List (List Int) × List Int)) (e : Ending) (w' : World) : Prop :=
 match r with
 | some (outs, keep') => ∃ ov vs' o', e = .returned (.tuple #[ov, .bool true]) ∧ Turn o o' (fun x => x = c) w w' ∧ BodyAt w' o' c d b t ps keep' n K vi vo vt vs' ∧ Outs w' o' E ov outs
 | none => ReckNo w e w'
theorem reckoned_some {w : World} {o : Col} {c d E b : Nat} {t : Int} {ps keep keep' : List Int} {n : Int} {K : Nat} {vi vo vt vs : Value} {outs : List (List Int)} {e : Ending} {w' : World} (h : BodyAt w o c d b t ps keep n K vi vo vt vs) (h1 : t ≠ 1)
  (hk1 : t = 8 ∨ t = 10 → keep'.length = 1) (hk2 : t ≠ 1 → t ≠ 8 → t ≠ 10 → keep' = []) (hkf : ∀ x ∈ keep', Fits x)
  (hr : Reck w K (kS t) (kcells t vi vo n (hd keep') (hd1 ps) vt vs) outs e w') : Reckoned w o c d E b t ps n K vi vo vt (some (outs, keep')) e w' := by
 obtain ⟨ov, he, hm, hK, hO⟩ := hr
 have hKc : o K = c := h.kind.2
 have hKl := h.kind.lt
 have T : Turn o (ext o w.heap.size E) (fun x => x = c) w w' := Turn.of_mods o E hm (fun k _ hk => by rw [hk]; exact hKc)
 have hd : ¬ d = c := fun e => h.ne e.symm
 refine ⟨ov, vs, _, he, T, ⟨h.body.turn T hd, ⟨hK, by rw [ext_old hKl]; exact hKc⟩, h.ins.turn T hd, h.outs.turn T hd, fun e => absurd e h1, h.good, h.fitp, hkf, hk1, hk2, h.fitn, h.ne⟩, ?_⟩
 refine hO.recol fun k hk hc => ?_
 exact ext_new (canon_is hc).1
theorem reckoned_filter {w : World} {o : Col} {c d E b : Nat} {ps keep : List Int} {n : Int} {K : Nat} {vi vo vt vs : Value} {y x : Int} {e : Ending} {w' : World} (h : BodyAt w o c d b 1 ps keep n K vi vo vt vs) (hx : Fits x)
  (hr : ReckF w K vi vo (.int .i64 n) vt ((x :: keep).take keep.length) y e w') : Reckoned w o c d E b 1 ps n K vi vo vt (some ([[y]], (x :: keep).take keep.length)) e w' := by
 obtain ⟨ov, R, cp, he, hm, hK, hS, hR1, hR2, hO⟩ := hr
 have hKc : o K = c := h.kind.2
 have hKl := h.kind.lt
 have hd : ¬ d = c := fun e => h.ne e.symm
 have T : Turn o (fun k => if k < w.heap.size then o k else if k = R then d else E) (fun x => x = c) w w' := ⟨hm.mono (fun k _ hk => by rw [hk]; exact hKc), fun k hk => by simp [hk]⟩
 have hl : ((x :: keep).take keep.length).length = keep.length := by rw [List.length_take, List.length_cons]; omega
 have htaps := h.taps rfl
 refine ⟨ov, _, _, he, T, ⟨h.body.turn T hd, ⟨hK, by simp [hKl, hKc]⟩, h.ins.turn T hd, h.outs.turn T hd, fun _ => ⟨htaps.1.turn T hd, ?_, by rw [hl]; exact htaps.2.2⟩, h.good, h.fitp, fun z hz => ?_, fun hh => by omega, fun hh => absurd rfl hh, h.fitn, h.ne⟩, ?_⟩
 ·
  rcases hS with hS | ⟨hp, b', off, cap, e, hle, hb, _, hcl⟩
  ·
   exact .inl hS
  ·
   refine .inr ⟨hp, b', off, cap, e, hle, hb, ?_, hcl⟩
   obtain ⟨rfl, _⟩ : R = b' ∧ True := by
    injection e with e1
    injection e1 with e1
    injection e1 with e1
    exact ⟨e1, trivial⟩
   simp [Nat.not_lt.2 hR1]
 ·
  rcases List.mem_cons.1 (List.mem_of_mem_take hz) with rfl | hz
  ·
   exact hx
  ·
   exact h.fitk z hz
 ·
  refine hO.recol fun k hk hc => ?_
  have := canon_is hc
  simp [Nat.not_lt.2 this.1, this.2]
end Go.Proofs.YtaholpfikcdhbaaGreat

/- What a firing reckons: every tag by its contract. -/
namespace Go.Proofs.YtaholpfikcdhbaaGreat
open Go.RowKit
theorem one_row {xss : List (List Int)} {n : Int} (h : xss.map (fun l => (l.length : Int)) = [n]) : ∃ l, xss = [l] ∧ (l.length : Int) = n := by
 match xss, h with
 | [l], h => exact ⟨l, rfl, by simpa using h⟩
theorem one_num {l : List Int} (h : (l.length : Int) = 1) : l = [hd l] := by
 match l, h with
 | [x], _ => rfl
theorem two_rows {xss : List (List Int)} (h : xss.map (fun l => (l.length : Int)) = [1, 1]) : ∃ x y, xss = [[x], [y]] := by
 match xss with
 | [] => simp at h
 | [l] => simp at h
 | [l, k] =>
  simp only [List.map_cons, List.map_nil, List.cons.injEq, and_true] at h
  exact ⟨hd l, hd k, by rw [← one_num h.1, ← one_num h.2]⟩
 | _ :: _ :: _ :: _ => simp at h
theorem reck_any {w : World} {o : Col} {c d b : Nat} {t : Int} {ps keep : List Int} {n : Int} {K : Nat} {vi vo vt vs insv : Value} {xss : List (List Int)} (E : Nat) (h : BodyAt w o c d b t ps keep n K vi vo vt vs) (hins : LL w insv xss) (hlen : xss.map (fun l => (l.length : Int)) = insP t ps) (hf : ∀ l ∈ xss, ∀ x ∈ l, Fits x) :
  Calls Tryz.prog (kF t) #[.pointer (some ⟨K, 0, none⟩), insv] w (Reckoned w o c d E b t ps n K vi vo vt (reckP t ps keep xss)) := by
 have hg := h.good
 have hK := h.kind.1
 rcases h.tag with rfl | rfl | rfl | rfl | rfl | rfl | rfl | rfl | rfl | rfl | rfl
 ·
  obtain ⟨l, rfl, hl⟩ := one_row hlen
  obtain ⟨x, rfl⟩ : ∃ x, l = [x] := ⟨_, one_num hl⟩
  have hx : Fits x := hf [x] (by simp) x (by simp)
  obtain ⟨t1, t2, t3⟩ := h.taps rfl
  have hg1 : 1 ≤ ps.length ∧ ps.length ≤ 16 := by unfold goodP at hg; omega
  refine (filter_reck w K vi vo (.int .i64 n) vt vs insv x ps keep t3 hg1.2 hx h.fitp h.fitk hK t1.has t2.has hins).mono fun e w' hr => ?_
  show Reckoned w o c d E b 1 ps n K vi vo vt ((dotP 0 ps (x :: keep)).map fun y => ([[y]], (x :: keep).take keep.length)) e w'
  cases hD : dotP 0 ps (x :: keep) with
  | none => rw [hD] at hr; exact hr
  | some y => rw [hD] at hr; exact reckoned_filter h hx hr
 ·
  have h1 : oneP ps 64 := by simpa [goodP] using hg
  obtain ⟨l, rfl, hl⟩ := one_row hlen
  obtain ⟨x, rfl⟩ : ∃ x, l = [x] := ⟨_, one_num hl⟩
  obtain ⟨u, hu⟩ : ∃ u : Nat, hd ps = u := ⟨(hd ps).toNat, by have := h1.2; omega⟩
  have hu2 := h1.2
  rw [hu] at hu2
  have ho : Has w vo (ivs [(u : Int)]) := by have := h.outs.has; rw [← hu]; exact this
  refine (up_reck w K vi vo (.int .i64 n) insv x u (by omega) (by omega) hK ho hins).mono fun e w' hr => ?_
  show Reckoned w o c d E b 2 ps n K vi vo vt (some ([x :: List.replicate ((hd ps).toNat - 1) 0], keep)) e w'
  rw [hu, Int.toNat_natCast]
  exact reckoned_some h (by decide) h.keep1 h.keep2 h.fitk hr
 ·
  have h1 : oneP ps 64 := by simpa [goodP] using hg
  obtain ⟨l, rfl, hl⟩ := one_row hlen
  refine (down_reck w K insv _ l (by have := h1.2; omega) hK hins).mono fun e w' hr => ?_
  exact reckoned_some h (by decide) h.keep1 h.keep2 h.fitk hr
 ·
  have h1 : pairP ps := by simpa [goodP] using hg
  obtain ⟨h2, h3, h4, h5⟩ := h1
  obtain ⟨u, hu⟩ : ∃ u : Nat, hd ps = u := ⟨(hd ps).toNat, by omega⟩
  obtain ⟨m, hm⟩ : ∃ u : Nat, hd1 ps = u := ⟨(hd1 ps).toNat, by omega⟩
  have hi : Has w vi (ivs (List.replicate u (m : Int))) := by have := h.ins.has; simpa [insP, hu, hm] using this
  have ho : Has w vo (ivs [(u : Int) * m]) := by have := h.outs.has; simpa [outsP, hu, hm] using this
  have hlen' : xss.map (fun l => (l.length : Int)) = List.replicate u (m : Int) := by rw [hlen]; simp [insP, hu, hm]
  have hxl : xss.length = u := by have := congrArg List.length hlen'; simpa using this
  have hall : ∀ l ∈ xss, l.length = m := fun l hl => by
   have : (l.length : Int) ∈ xss.map (fun l => (l.length : Int)) := List.mem_map.2 ⟨l, hl, rfl⟩
   rw [hlen'] at this
   have := (List.mem_replicate.1 this).2
   omega
  refine (weave_reck w K vi vo (.int .i64 n) insv u m xss (by omega) (by omega) (by omega) hxl hall hK hi ho hins).mono fun e w' hr => ?_
  show Reckoned w o c d E b 4 ps n K vi vo vt (some ([weaveP xss (hd1 ps).toNat], keep)) e w'
  rw [hm, Int.toNat_natCast]
  exact reckoned_some h (by decide) h.keep1 h.keep2 h.fitk hr
 ·
  have h1 : pairP ps := by simpa [goodP] using hg
  obtain ⟨h2, h3, h4, h5⟩ := h1
  obtain ⟨u, hu⟩ : ∃ u : Nat, hd ps = u := ⟨(hd ps).toNat, by omega⟩
  obtain ⟨m, hm⟩ : ∃ u : Nat, hd1 ps = u := ⟨(hd1 ps).toNat, by omega⟩
  obtain ⟨l, rfl, hl⟩ := one_row hlen
  have ho : Has w vo (ivs (List.replicate u (m : Int))) := by have := h.outs.has; simpa [outsP, hu, hm] using this
  refine (unw_reck w K vi vo (.int .i64 n) insv u m l _ (by simp) (by omega) (by omega) (by omega) (by rw [hu, hm] at hl; exact_mod_cast hl) hK ho hins).mono fun e w' hr => ?_
  show Reckoned w o c d E b 5 ps n K vi vo vt (some (partP (hd ps).toNat (hd1 ps).toNat l, keep)) e w'
  rw [hu, hm, Int.toNat_natCast, Int.toNat_natCast]
  exact reckoned_some h (by decide) h.keep1 h.keep2 h.fitk hr
 ·
  have h1 : oneP ps 16 := by simpa [goodP] using hg
  have hlen' : xss.map (fun l => (l.length : Int)) = List.replicate (hd ps).toNat 1 := hlen
  have hxl : xss.length = (hd ps).toNat := by have := congrArg List.length hlen'; simpa using this
  have hall : ∀ l ∈ xss, l.length = 1 := fun l hl => by
   have : (l.length : Int) ∈ xss.map (fun l => (l.length : Int)) := List.mem_map.2 ⟨l, hl, rfl⟩
   rw [hlen'] at this
   have := (List.mem_replicate.1 this).2
   omega
  refine (add_reck w K insv _ xss (by have := h1.2; omega) (fun l hl => by rw [hall l hl]; omega) (fun x hx => ?_) hK hins).mono fun e w' hr => ?_
  ·
   obtain ⟨l, hl, rfl⟩ := List.mem_map.1 hx
   have h0 := hall l hl
   refine hf l hl _ ?_
   rw [List.getElem?_eq_getElem (by omega), Option.getD_some]
   exact List.getElem_mem _
  show Reckoned w o c d E b 6 ps n K vi vo vt ((sumP 0 (firsts xss)).map fun y => ([[y]], keep)) e w'
  cases hS : sumP 0 (firsts xss) with
  | none => rw [hS] at hr; exact hr
  | some y => rw [hS] at hr; exact reckoned_some h (by decide) h.keep1 h.keep2 h.fitk hr
 ·
  obtain ⟨x, y, rfl⟩ := two_rows hlen
  refine (quot_reck w K insv _ x y (hf [x] (by simp) x (by simp)) (hf [y] (by simp) y (by simp)) hK hins).mono fun e w' hr => ?_
  show Reckoned w o c d E b 7 ps n K vi vo vt ((quotP x y).map fun z => ([[z]], keep)) e w'
  cases hS : quotP x y with
  | none => rw [hS] at hr; exact hr
  | some z => rw [hS] at hr; exact reckoned_some h (by decide) h.keep1 h.keep2 h.fitk hr
 ·
  obtain ⟨l, rfl, hl⟩ := one_row hlen
  obtain ⟨x, rfl⟩ : ∃ x, l = [x] := ⟨_, one_num hl⟩
  have hk : keep = [hd keep] := one_num (by have := h.keep1 (.inl rfl); omega)
  have hfk : Fits (hd keep) := h.fitk _ (by rw [hk]; exact List.mem_cons_self)
  refine (sum_reck w K vi vo (.int .i64 n) insv (hd keep) x hfk (hf [x] (by simp) x (by simp)) hK hins).mono fun e w' hr => ?_
  show Reckoned w o c d E b 8 ps n K vi vo vt (if Fits (hd keep + x) then some ([[hd keep + x]], [hd keep + x]) else none) e w'
  by_cases hS : Fits (hd keep + x)
  ·
   rw [if_pos hS] at hr ⊢; exact reckoned_some h (by decide) (fun _ => rfl) (fun _ h8 _ => absurd rfl h8) (fun z hz => by rw [List.mem_singleton.1 hz]; exact hS) hr
  ·
   rw [if_neg hS] at hr ⊢; exact hr
 ·
  have h1 : oneP ps 16 := by simpa [goodP] using hg
  obtain ⟨l, rfl, hl⟩ := one_row hlen
  obtain ⟨x, rfl⟩ : ∃ x, l = [x] := ⟨_, one_num hl⟩
  refine (copy_reck w K vi vo (.int .i64 n) insv x (hd ps).toNat _ (by simp [outsP]) (by have := h1.2; omega) hK h.outs.has hins).mono fun e w' hr => ?_
  exact reckoned_some h (by decide) h.keep1 h.keep2 h.fitk hr
 ·
  have h2 : ps.length = 2 := by unfold goodP at hg; omega
  have hfp : Fits (hd1 ps) := h.fitp _ (by unfold hd1; rw [List.getElem?_eq_getElem (by omega), Option.getD_some]; exact List.getElem_mem _)
  have hk : keep = [hd keep] := one_num (by have := h.keep1 (.inr rfl); omega)
  have hfk : Fits (hd keep) := h.fitk _ (by rw [hk]; exact List.mem_cons_self)
  refine (tick_reck w K vi vo (.int .i64 n) insv (hd keep) (hd1 ps) hfk hfp hK).mono fun e w' hr => ?_
  show Reckoned w o c d E b 10 ps n K vi vo vt (if Fits (hd keep + hd1 ps) then some ([[hd keep]], [hd keep + hd1 ps]) else none) e w'
  by_cases hS : Fits (hd keep + hd1 ps)
  ·
   rw [if_pos hS] at hr ⊢; exact reckoned_some h (by decide) (fun _ => rfl) (fun _ _ h8 => absurd rfl h8) (fun z hz => by rw [List.mem_singleton.1 hz]; exact hS) hr
  ·
   rw [if_neg hS] at hr ⊢; exact hr
 ·
  refine (drop_reck w K insv _ hK).mono fun e w' hr => ?_
  exact reckoned_some h (by decide) h.keep1 h.keep2 h.fitk hr
end Go.Proofs.YtaholpfikcdhbaaGreat

/- An actor fires. -/
namespace Go.Proofs.YtaholpfikcdhbaaGreat
open Go.RowKit
def Fired (w : World) (o : Col) (c d E b : Nat) (t : Int) (ps : List Int) (n : Int) (K : Nat) (vi vo vt : Value) (fit : Bool) (r : Option (List (List Int) × List Int)) (e : Ending) (w' : World) : Prop :=
 match fit, r with
 | false, _ => e = .returned (.tuple #[.slice none 0 0, .int .i64 1]) ∧ Below w.heap.size w w'
 | true, none => e = .returned (.tuple #[.slice none 0 0, .int .i64 70]) ∧ Below w.heap.size w w'
 | true, some (outs, keep') => ∃ ov vs' o', e = .returned (.tuple #[ov, .int .i64 0]) ∧ Turn o o' (fun x => x = c) w w' ∧ BodyAt w' o' c d b t ps keep' (n + 1) K vi vo vt vs' ∧ Outs w' o' E ov outs
theorem fired_fin {w w1 w2 : World} {o o1 o' : Col} {c d E b : Nat} {t : Int} {ps keep' : List Int} {n : Int} {K : Nat} {vi vo vt vs' ov : Value} {outs : List (List Int)} {e : Ending} (hE : E ≠ c) (T1 : Turn o o1 (fun x => x = c) w w1) (T2 : Turn o1 o' (fun x => x = c) w1 w2)
  (hb : BodyAt w2 o' c d b t ps keep' n K vi vo vt vs') (hO : Outs w2 o' E ov outs) (hn : Fits (n + 1)) (he : e = .returned (.tuple #[ov, .int .i64 0])) : Fired w o c d E b t ps n K vi vo vt true (some (outs, keep')) e (w2.setCell ⟨K, 2, none⟩ (.int .i64 (n + 1))) := by
 obtain ⟨hk, T3⟩ := hb.kind.set 2 (.int .i64 (n + 1))
 rw [kcells_next _ _ _ _ _ _ _ _ _ hb.tag] at hk
 have hd : ¬ d = c := fun e => hb.ne e.symm
 exact ⟨ov, vs', o', he, (T1.trans T2 (fun _ h => h)).trans T3 (fun _ h => h), ⟨hb.body.turn T3 hd, hk, hb.ins.turn T3 hd, hb.outs.turn T3 hd, fun e => ⟨(hb.taps e).1.turn T3 hd, (hb.taps e).2.1.turn T3 hd, (hb.taps e).2.2⟩, hb.good, hb.fitp, hb.fitk, hb.keep1, hb.keep2, hn, hb.ne⟩, hO.turn T3 hE⟩
theorem fit_no {xss : List (List Int)} {R : List Int} {j : Nat} (hj : j < xss.length) (h : ¬ ((xss[j]?.getD []).length : Int) = R[j]?.getD 0) : decide (xss.map (fun l => (l.length : Int)) = R) = false := by
 refine decide_eq_false fun e => h ?_
 subst e
 simp [hj]
theorem fit_yes {xss : List (List Int)} {R : List Int} (hl : xss.length = R.length) (h : ∀ j, j < xss.length → ((xss[j]?.getD []).length : Int) = R[j]?.getD 0) : xss.map (fun l => (l.length : Int)) = R := by
 refine List.ext_getElem (by simpa using hl) fun j h1 h2 => ?_
 have := h j (by simpa using h1)
 simp only [List.length_map] at h1
 simpa [h1, h2] using this
set_option maxRecDepth 100000 in
set_option maxHeartbeats 2000000 in
theorem Fire_any {w : World} {o : Col} {c d b : Nat} {t : Int} {ps keep : List Int} {n : Int} {K : Nat} {vi vo vt vs insv : Value} {xss : List (List Int)} (E : Nat) (hE : E ≠ c) (h : BodyAt w o c d b t ps keep n K vi vo vt vs) (hins : LL w insv xss) (hf : ∀ l ∈ xss, ∀ x ∈ l, Fits x) (hn1 : Fits (n + 1)) :
  Calls Tryz.prog 64 #[.pointer (some ⟨b, 0, none⟩), insv] w (Fired w o c d E b t ps n K vi vo vt (decide (xss.map (fun l => (l.length : Int)) = insP t ps)) (reckP t ps keep xss)) := by
 obtain ⟨iao, icp, rfl⟩ := hins.slice
 have ht := h.tag
 have hb : w.cell? ⟨b, 0, none⟩ = some (.iface (kP t) (.pointer (some ⟨K, 0, none⟩))) := h.body.cell 0 _ rfl
 have h0 := h.kind.cell 0 _ (kcells_get t vi vo n _ _ vt vs ht).1
 have h1 := h.kind.cell 1 _ (kcells_get t vi vo n _ _ vt vs ht).2.1
 have hl := rates_len h.good
 have hm1 := disp_rates ht K
 have hm2 := disp_reckon ht K
 have hm3 := disp_fired ht K
 have hcf : ∀ (args : Array Value) (w : World), (callFunc (kF t) args).run Tryz.prog w = .ok (.enter (kF t) args) w := fun args w => by
  rcases ht with rfl | rfl | rfl | rfl | rfl | rfl | rfl | rfl | rfl | rfl | rfl <;> first | exact Tryz.call151 _ _ | exact Tryz.call158 _ _ | exact Tryz.call159 _ _ | exact Tryz.call160 _ _ | exact Tryz.call161 _ _ | exact Tryz.call162 _ _ | exact Tryz.call164 _ _ | exact Tryz.call167 _ _ | exact Tryz.call168 _ _ | exact Tryz.call169 _ _ | exact Tryz.call170 _ _
 have HH := Lib.hid h
 have HI := Lib.hid hins
 have HF := Lib.hid hf
 have HN := Lib.hid hn1
 have HT := Lib.hid ht
 clear h hins hf hn1 ht
 go_enter Tryz.func64, Tryz.ntmps64
 go_wp2_with fail
 refine (rates_any _ K _ _ _ _ h0 h1 HH.out.ins.has HH.out.outs.has (by omega) (by omega)).mono ?_
 rintro e w1 ⟨g1, c1, g2, c2, rfl, r1, -, -, hb1⟩
 have R1 := Lib.hid (Own.made (fun _ => 0) 0 r1).vals.has
 have hb1c := cell_later hb1 hb
 clear r1 h0 h1 hm1
 obtain ⟨R, hR⟩ : ∃ R, insP t ps = R := ⟨_, rfl⟩
 have hl1 : R.length ≤ 64 := by rw [← hR]; exact hl.1
 rw [hR] at R1
 have HR := Lib.hid hR
 clear hR hl
 by_cases hlen : xss.length = R.length
 ·
  have hleni : (xss.length : Int) = (insP t ps).length := by rw [HR.out]; omega
  have hx64 : (xss.length : Int) ≤ 64 := by omega
  have HL := Lib.hid hlen
  clear hlen
  go_wp2_with fail
  clear hleni
  go_loopw [29] (fun i wr => ∃ j : Nat, j ≤ xss.length ∧ i = .int .i64 j ∧ wr = w1 ∧ ∀ k, k < j → ((xss[k]?.getD []).length : Int) = R[k]?.getD 0) (fun i _ => xss.length - (intOf i).toNat)
  case atStart => exact ⟨0, Nat.zero_le _, rfl, rfl, fun k hk => by omega⟩
  case round =>
   obtain ⟨j, hj, rfl, hw, hall⟩ := hrel
   subst hw
   have Hall := Lib.hid hall
   clear hall
   by_cases hjn : j < xss.length
   ·
    have hjni : (j : Int) < xss.length := by omega
    obtain ⟨bi, oi, ie, hci, hrow⟩ := HI.out.at (by omega)
    subst ie
    obtain ⟨a0, c0, hr0, -⟩ := hrow j hjn
    have hr1 := cell_later hb1 hr0
    obtain ⟨gb, go, eg, -, hcR, -, -, hcell⟩ := Vals.at R1.out (by rw [ivs_len]; have := HL.out; omega)
    cases eg
    have hx := hcell j (by rw [ivs_len]; have := HL.out; omega)
    rw [ivs_get (by have := HL.out; omega)] at hx
    rw [Nat.zero_add] at hx
    have hciI : ((insP t ps).length : Int) ≤ c1 := by rw [HR.out]; omega
    have hciI2 : (xss.length : Int) ≤ icp := by omega
    have hjR : (j : Int) < (insP t ps).length := by rw [HR.out]; have := HL.out; omega
    have HNO := Lib.hid (fun h => fit_no (R := R) hjn h)
    have HST := Lib.hid (fun (h : ((xss[j]?.getD []).length : Int) = R[j]?.getD 0) k (hk : k < j + 1) => (by
     by_cases hkj : k = j
     ·
      rw [hkj]; exact h
     ·
      exact Hall.out k (by omega) : ((xss[k]?.getD []).length : Int) = R[k]?.getD 0))
    clear hrow hcell hr0
    generalize (xss[j]?.getD []).length = lm at *
    generalize R[j]?.getD 0 = rm at *
    by_cases hq : (lm : Int) = rm
    ·
     have HQ := Lib.hid (HST.out hq)
     clear HST
     subst hq
     go_wp2
     go_roundw
     case rel => exact ⟨j + 1, by omega, by go_num, by first | rfl | trivial, HQ.out⟩
     case measure => simp [intOf]; omega
    ·
     go_wp2
     go_ret2
     rw [HR.out, HNO.out hq]
     exact ⟨rfl, hb1⟩
   ·
    obtain rfl : j = xss.length := by omega
    have HX := Lib.hid (fit_yes HL.out Hall.out)
    have HB := Lib.hid (HH.out.turn (Turn.of_below o d hb1) (fun h => h) (fun h => h))
    have HI1 := Lib.hid (HI.out.below hb1)
    clear Hall
    have hNN : ¬ (xss.length : Int) < (insP t ps).length := by rw [HR.out]; have := HL.out; omega
    go_wp2_with fail
    refine (reck_any E HB.out HI1.out (by rw [HX.out, HR.out]) HF.out).mono ?_
    intro e w2 hr
    rcases hp : reckP t ps keep xss with _ | ⟨outs, keep'⟩
    ·
     rw [hp] at hr
     have HP := Lib.hid hp
     obtain ⟨⟨ov, rfl⟩, hb2⟩ := hr
     clear hp
     go_wp2
     go_ret2
     rw [HR.out, HX.out, decide_eq_true rfl, HP.out]
     exact ⟨rfl, hb1.trans (hb2.mono hb1.size)⟩
    ·
     rw [hp] at hr
     have HP := Lib.hid hp
     obtain ⟨ov, vs', o', rfl, T2, B2, O2⟩ := hr
     have hb2 : w2.cell? ⟨b, 0, none⟩ = some (.iface (kP t) (.pointer (some ⟨K, 0, none⟩))) := B2.body.cell 0 _ rfl
     have HB2 := Lib.hid B2
     have HO2 := Lib.hid O2
     have HT2 := Lib.hid T2
     clear hp B2 O2 T2
     go_wp2_with fail
     refine (cfired_any _ K n (HB2.out.kind.cell 2 _ (kcells_get t vi vo n _ _ vt vs' HT.out).2.2) (HB2.out.kind.frozen 2) HN.out).mono ?_
     rintro e w3 ⟨rfl, rfl⟩
     go_wp2
     go_ret2
     rw [HR.out, HX.out, decide_eq_true rfl, HP.out]
     exact fired_fin hE ((Turn.of_below o d hb1).mono (fun _ h => h.elim)) HT2.out HB2.out HO2.out HN.out rfl
 ·
  have hleni : ¬ (xss.length : Int) = (insP t ps).length := by rw [HR.out]; omega
  go_wp2
  go_ret2
  rw [HR.out, show decide (xss.map (fun l => (l.length : Int)) = R) = false from decide_eq_false fun e => hlen (by rw [← e]; simp)]
  exact ⟨rfl, hb1⟩
end Go.Proofs.YtaholpfikcdhbaaGreat

/- A new actor. -/
namespace Go.Proofs.YtaholpfikcdhbaaGreat
open Go.RowKit
theorem make_any {o : Col} {c : Nat} (w : World) (t : Int) (vi vo : Value) (ao : Option Addr) (n cap : Nat) (ps : List Int) (hg : goodP t ps) (h : Ints w o c (.slice ao n cap) ps) : Calls Tryz.prog 66 #[.int .u8 t, .agg #[vi, vo, .int .i64 0], .slice ao n cap] w (Made w t vi vo ps) := by
 rcases goodP_cases hg with rfl | rfl | rfl | rfl | rfl | rfl | rfl | rfl | rfl | rfl | rfl
 ·
  have h1 : 1 ≤ ps.length ∧ ps.length ≤ 16 := by simpa [goodP] using hg
  exact make_1 w vi vo ao n cap ps h h1.1 h1.2
 ·
  exact make_2 w vi vo _ ps
 ·
  exact make_3 w vi vo _ ps
 ·
  exact make_4 w vi vo _ ps
 ·
  exact make_5 w vi vo _ ps
 ·
  exact make_6 w vi vo _ ps
 ·
  exact make_7 w vi vo _ ps
 ·
  exact make_8 w vi vo _ ps
 ·
  exact make_9 w vi vo _ ps
 ·
  have h1 : ps.length = 2 := by simpa [goodP] using hg
  obtain rfl := h.len
  match ps, h1, h with
  | [x, y], _, h => exact make_10 w vi vo ao cap x y h
 ·
  exact make_11 w vi vo _ ps
def Newed (w : World) (o : Col) (c d : Nat) (t : Int) (ps : List Int) (e : Ending) (w' : World) : Prop :=
 ∃ b K vi vo vt vs o', e = .returned (.tuple #[.pointer (some ⟨b, 0, none⟩), .int .i64 0]) ∧ Turn o o' (fun _ => False) w w' ∧ BodyAt w' o' c d b t ps (keep0 t ps) 0 K vi vo vt vs
theorem keep0_facts {t : Int} {ps : List Int} (hg : goodP t ps) (hf : ∀ x ∈ ps, Fits x) : (∀ x ∈ keep0 t ps, Fits x) ∧ (t = 8 ∨ t = 10 → (keep0 t ps).length = 1) ∧ (t ≠ 1 → t ≠ 8 → t ≠ 10 → keep0 t ps = []) ∧ (t = 1 → ps.length = (keep0 t ps).length + 1) := by
 have f0 : Fits 0 := by unfold Fits; omega
 refine ⟨fun x hx => ?_, fun h => ?_, fun h1 h2 h3 => ?_, fun h => ?_⟩
 ·
  unfold keep0 at hx
  split at hx
  ·
   rw [(List.mem_replicate.1 hx).2]; exact f0
  split at hx
  ·
   rw [List.mem_singleton.1 hx]; exact f0
  split at hx
  ·
   rename_i h10
   have h2 : ps.length = 2 := by subst h10; simpa [goodP] using hg
   rw [List.mem_singleton.1 hx]
   exact hf _ (by unfold hd; rw [List.getElem?_eq_getElem (by omega), Option.getD_some]; exact List.getElem_mem _)
  ·
   cases hx
 ·
  rcases h with rfl | rfl <;> rfl
 ·
  unfold keep0; rw [if_neg h1, if_neg h2, if_neg h3]
 ·
  subst h
  have h1 : 1 ≤ ps.length ∧ ps.length ≤ 16 := by simpa [goodP] using hg
  simp [keep0]; omega
theorem own_ints {w : World} {N : Nat} {o : Col} {d e : Nat} {v : Value} {l : List Int} (h : w.ownsRow N e 1 v l.length (ivs l)) (ho : ∀ k, v.ownBlock = some k → o k = d) : Ints w o d v l :=
 Own.vals (e := e) (n := l.length) ⟨owns_base h (fun _ _ => Nat.zero_le _), ho⟩
set_option maxRecDepth 100000 in
theorem New_ok {o1 : Col} {c1 : Nat} {w : World} {t : Int} {ao : Option Addr} {n cap : Nat} {ps : List Int} (o : Col) (c d : Nat) (hcd : c ≠ d) (hg : goodP t ps) (hf : ∀ x ∈ ps, Fits x) (h : Ints w o1 c1 (.slice ao n cap) ps) : Calls Tryz.prog 43 #[.int .u8 t, .slice ao n cap] w (Newed w o c d t ps) := by
 have hl : ps.length ≤ 64 := by
  unfold goodP oneP pairP at hg
  omega
 have HH := Lib.hid h
 have HG := Lib.hid hg
 have HF := Lib.hid hf
 clear h hg hf
 go_enter Tryz.func43, Tryz.ntmps43
 go_wp2_with fail
 refine (of_ok w t ao n cap ps HG.out (by omega) HH.out).mono ?_
 rintro e w1 ⟨vi, vo, rfl, r1, r2, hb1⟩
 obtain ⟨ai, ci, rfl⟩ := owns_slice r1
 obtain ⟨a2, c2, rfl⟩ := owns_slice r2
 have R1 := Lib.hid r1
 have R2 := Lib.hid r2
 have H1 := Lib.hid (HH.out.has.below hb1)
 clear r1 r2
 go_wp2_with fail
 refine (make_any w1 t _ _ ao n cap ps HG.out H1.out).mono ?_
 rintro e w2 ⟨K, vt, vs, rfl, hK, hKb, hb2, htt⟩
 have HK := Lib.hid hK
 have HT := Lib.hid htt
 clear hK htt
 go_wp2
 go_ret2
 have s1 := hb1.size
 have s2 := hb2.size
 have hKl := block_lt HK.out
 have hb : Below w.heap.size w (w2.alloc (.cells #[.iface (kP t) (.pointer (some ⟨K, 0, none⟩))] 156)) := (hb1.trans (hb2.mono s1)).alloc (by omega) _
 have M2 : Mods (fun _ => False) w1 w2 := Mods.of_below hb2 _
 have hlow : ∀ v : Value, ∀ l : List Int, w1.ownsRow w.heap.size 3 1 v l.length (ivs l) → Ints (w2.alloc (.cells #[.iface (kP t) (.pointer (some ⟨K, 0, none⟩))] 156)) (fun k => if k < w.heap.size then o k else if k = K then c else d) d v l := fun v l hv => by
  refine own_ints ((owns_kept hv M2 (fun _ _ h => h)).alloc _) fun k hk => ?_
  have := hv.lt k hk
  rw [if_neg (by omega), if_neg (by omega)]
 have hhigh : ∀ v : Value, ∀ l : List Int, w2.ownsRow w1.heap.size 3 1 v l.length (ivs l) → v.ownBlock ≠ some K → Ints (w2.alloc (.cells #[.iface (kP t) (.pointer (some ⟨K, 0, none⟩))] 156)) (fun k => if k < w.heap.size then o k else if k = K then c else d) d v l := fun v l hv hvK => by
  refine own_ints (hv.alloc _) fun k hk => ?_
  have := hv.lt k hk
  rw [if_neg (by omega), if_neg (fun e => hvK (by rw [hk, e]))]
 have hk0 := keep0_facts HG.out HF.out
 refine ⟨w2.heap.size, K, _, _, vt, vs, _, rfl, ⟨Mods.of_below hb _, fun k hk => if_pos hk⟩, ⟨⟨heap_alloc_new _ _, ?_⟩, ⟨block_alloc HK.out _, ?_⟩, hlow _ _ R1.out, hlow _ _ R2.out, fun e => ?_, HG.out, HF.out, hk0.1, hk0.2.1, hk0.2.2.1, by unfold Fits; omega, hcd⟩⟩
 ·
  simp only []
  rw [if_neg (by omega), if_neg (by omega)]
 ·
  simp only []
  rw [if_neg (by omega), if_pos trivial]
 ·
  obtain ⟨t1, t2, t3, t4⟩ := HT.out e
  subst e
  exact ⟨hhigh _ _ t1 t3, hhigh _ _ t2 t4, hk0.2.2.2 rfl⟩
end Go.Proofs.YtaholpfikcdhbaaGreat

/- Two lists compared. -/
namespace Go.Proofs.YtaholpfikcdhbaaGreat
open Go.RowKit
def Quiet (v : Value) (w : World) (e : Ending) (w' : World) : Prop := e = .returned v ∧ ∃ m, w' = w.drewN m
theorem ints_no {l l2 : List Int} {k : Nat} (_hk : k < l.length) (_hk2 : k < l2.length) (h : ¬ l[k]?.getD 0 = l2[k]?.getD 0) : decide (l = l2) = false := decide_eq_false fun e => h (by rw [e])
theorem ints_yes {l l2 : List Int} (hl : l.length = l2.length) (h : ∀ k, k < l.length → l[k]?.getD 0 = l2[k]?.getD 0) : decide (l = l2) = true := by
 refine decide_eq_true (List.ext_getElem hl fun k h1 h2 => ?_)
 have := h k h1
 simpa [h1, h2] using this
set_option maxHeartbeats 1000000 in
theorem sameints_some (w : World) (b off c b' off' c' : Nat) (l l2 : List Int) (hl2 : l2.length = l.length) (hl : l.length ≤ 4611686018427387904) (h1 : ∀ k, k < l.length → w.cell? ⟨b, off + k, none⟩ = some (iv (l[k]?.getD 0))) (h2 : ∀ k, k < l.length → w.cell? ⟨b', off' + k, none⟩ = some (iv (l2[k]?.getD 0))) :
  Calls Tryz.prog 37 #[.slice (some ⟨b, off, none⟩) l.length c, .slice (some ⟨b', off', none⟩) l.length c'] w (Quiet (.bool (decide (l = l2))) w) := by
 have H1 := Lib.hid h1
 have H2 := Lib.hid h2
 have HL := Lib.hid hl2
 clear h1 h2 hl2
 go_enter Tryz.func37, Tryz.ntmps37
 go_wp2
 go_loopw [5] (fun i wr => ∃ k : Nat, k ≤ l.length ∧ i = .int .i64 k ∧ (∀ j, j < k → l[j]?.getD 0 = l2[j]?.getD 0) ∧ ∃ m, wr = w.drewN m) (fun i _ => l.length - (intOf i).toNat)
 case atStart => exact ⟨0, Nat.zero_le _, rfl, fun j hj => by omega, 0, rfl⟩
 case round =>
  obtain ⟨k, hk, rfl, hall, m, rfl⟩ := hrel
  have HA := Lib.hid hall
  clear hall
  by_cases hlt : k < l.length
  ·
   have c1 := H1.out k hlt
   have c2 := H2.out k hlt
   have hlti : (k : Int) < l.length := by omega
   have HNO := Lib.hid (fun h => ints_no (l2 := l2) hlt (by have := HL.out; omega) h)
   have HST := Lib.hid (fun (h : l[k]?.getD 0 = l2[k]?.getD 0) j (hj : j < k + 1) => (by
    by_cases hkj : j = k
    ·
     rw [hkj]; exact h
    ·
     exact HA.out j (by omega) : l[j]?.getD 0 = l2[j]?.getD 0))
   generalize l[k]?.getD 0 = x at *
   generalize l2[k]?.getD 0 = y at *
   by_cases hq : x = y
   ·
    have HQ := Lib.hid (HST.out hq)
    clear HST
    subst hq
    go_wp2
    go_quiet (fail)
    go_wp2
    go_roundw
    case rel => exact ⟨k + 1, by omega, by go_num, HQ.out, _, rfl⟩
    case measure => simp [intOf]; omega
   ·
    go_wp2
    go_quiet (fail)
    go_wp2
    go_ret
    rw [HNO.out hq]
    exact ⟨rfl, m + _, (World.drewN_drewN _ _ _)⟩
  ·
   obtain rfl : k = l.length := by omega
   have HX := Lib.hid (ints_yes HL.out.symm HA.out)
   go_wp2
   go_ret
   rw [HX.out]
   exact ⟨rfl, _, rfl⟩
set_option maxHeartbeats 400000 in
theorem sameints_empty (w : World) (a a' : Option Addr) (c c' : Nat) :
  Calls Tryz.prog 37 #[.slice a 0 c, .slice a' 0 c'] w (Quiet (.bool true) w) := by
 go_enter Tryz.func37, Tryz.ntmps37
 go_wp2
 go_loopw [5] (fun i wr => i = .int .i64 0 ∧ wr = w) (fun _ _ => 0)
 case atStart => exact ⟨rfl, rfl⟩
 case round =>
  obtain ⟨rfl, rfl⟩ := hrel
  go_wp2
  go_ret
  exact ⟨rfl, 0, rfl⟩
theorem sameints_len (w : World) (a a' : Option Addr) (n n' c c' : Nat) (h : ¬ n = n') :
  Calls Tryz.prog 37 #[.slice a n c, .slice a' n' c'] w (Quiet (.bool false) w) := by
 have hi : ¬ (n : Int) = n' := by omega
 go_enter Tryz.func37, Tryz.ntmps37
 go_wp2
 go_ret
 exact ⟨rfl, 0, rfl⟩
theorem sameints_any {o o2 : Col} {c c2 : Nat} {w : World} {v v' : Value} {l l2 : List Int} (h : Ints w o c v l) (h' : Ints w o2 c2 v' l2) (hl : l.length ≤ 4611686018427387904) :
  Calls Tryz.prog 37 #[v, v'] w (Quiet (.bool (decide (l = l2))) w) := by
 obtain ⟨a, cp, rfl⟩ := h.slice
 obtain ⟨a', cp', rfl⟩ := h'.slice
 by_cases hq : l.length = l2.length
 ·
  by_cases hp : 0 < l.length
  ·
   obtain ⟨b, off, rfl, -, -, -, -, h1⟩ := h.at hp
   obtain ⟨b', off', rfl, -, -, -, -, h2⟩ := h'.at (by omega)
   rw [← hq]
   exact sameints_some w b off _ b' off' _ l l2 hq.symm hl h1 (fun k hk => h2 k (by omega))
  ·
   obtain rfl : l = [] := List.eq_nil_of_length_eq_zero (by omega)
   obtain rfl : l2 = [] := List.eq_nil_of_length_eq_zero (by simpa using hq.symm)
   exact sameints_empty w _ _ _ _
 ·
  rw [show decide (l = l2) = false from decide_eq_false fun e => hq (by rw [e])]
  exact sameints_len w _ _ _ _ _ _ hq
theorem sameints_yes {o o2 : Col} {c c2 : Nat} {w : World} {v v' : Value} {l : List Int} (h : Ints w o c v l) (h' : Ints w o2 c2 v' l) (hl : l.length ≤ 4611686018427387904) :
  Calls Tryz.prog 37 #[v, v'] w (Quiet (.bool true) w) := by
 have := sameints_any h h' hl
 rwa [decide_eq_true rfl] at this
end Go.Proofs.YtaholpfikcdhbaaGreat

/- A firing that fits, or not; rows that are just made. -/
namespace Go.Proofs.YtaholpfikcdhbaaGreat
open Go.RowKit
theorem below_n {B : Nat} {w w' : World} (h : Below B w w') (n : Nat) : Below B w (w'.drewN n) := ⟨h.os, h.tape, h.output, h.size, h.block⟩
theorem Fire_fit {w : World} {o : Col} {c d b : Nat} {t : Int} {ps keep : List Int} {n : Int} {K : Nat} {vi vo vt vs insv : Value} {xss : List (List Int)} {r : Option (List (List Int) × List Int)} (E : Nat) (hE : E ≠ c) (h : BodyAt w o c d b t ps keep n K vi vo vt vs) (hins : LL w insv xss) (hf : ∀ l ∈ xss, ∀ x ∈ l, Fits x) (hn1 : Fits (n + 1))
  (hfit : xss.map (fun l => (l.length : Int)) = insP t ps) (hr : reckP t ps keep xss = r) : Calls Tryz.prog 64 #[.pointer (some ⟨b, 0, none⟩), insv] w (Fired w o c d E b t ps n K vi vo vt true r) := by
 have := Fire_any E hE h hins hf hn1
 rwa [decide_eq_true hfit, hr] at this
theorem Fire_not {w : World} {o : Col} {c d b : Nat} {t : Int} {ps keep : List Int} {n : Int} {K : Nat} {vi vo vt vs insv : Value} {xss : List (List Int)} (h : BodyAt w o c d b t ps keep n K vi vo vt vs) (hins : LL w insv xss) (hf : ∀ l ∈ xss, ∀ x ∈ l, Fits x) (hn1 : Fits (n + 1))
  (hfit : ¬ xss.map (fun l => (l.length : Int)) = insP t ps) : Calls Tryz.prog 64 #[.pointer (some ⟨b, 0, none⟩), insv] w fun e w' => e = .returned (.tuple #[.slice none 0 0, .int .i64 1]) ∧ Below w.heap.size w w' := by
 have := Fire_any (c + 1) (by omega) h hins hf hn1
 rwa [decide_eq_false hfit] at this
end Go.Proofs.YtaholpfikcdhbaaGreat

/- An actor, its kind's block forgotten. -/
namespace Go.Proofs.YtaholpfikcdhbaaGreat
open Go.RowKit
def Act (w : World) (o : Col) (c d b : Nat) (t : Int) (ps keep : List Int) (n : Int) : Prop := ∃ K vi vo vt vs, BodyAt w o c d b t ps keep n K vi vo vt vs
theorem Act.turn {w w' : World} {o o' : Col} {C : Nat → Prop} {c d b : Nat} {t : Int} {ps keep : List Int} {n : Int} (h : Act w o c d b t ps keep n) (T : Turn o o' C w w') (hc : ¬ C c) (hd : ¬ C d) : Act w' o' c d b t ps keep n := by
 obtain ⟨K, vi, vo, vt, vs, h⟩ := h
 exact ⟨K, vi, vo, vt, vs, h.turn T hc hd⟩
theorem Act.below {w w' : World} {o : Col} {c d b : Nat} {t : Int} {ps keep : List Int} {n : Int} (h : Act w o c d b t ps keep n) (x : Nat) (hb : Below w.heap.size w w') : Act w' (ext o w.heap.size x) c d b t ps keep n := h.turn (Turn.of_below o x hb) (fun h => h) (fun h => h)
theorem Act.drewN {w : World} {o : Col} {c d b : Nat} {t : Int} {ps keep : List Int} {n : Int} (h : Act w o c d b t ps keep n) (m : Nat) : Act (w.drewN m) o c d b t ps keep n := h.turn (Turn.of_quiet o ⟨m, rfl⟩) (fun h => h) (fun h => h)
def NewAct (w : World) (o : Col) (c d : Nat) (t : Int) (ps : List Int) (e : Ending) (w' : World) : Prop :=
 ∃ b o', e = .returned (.tuple #[.pointer (some ⟨b, 0, none⟩), .int .i64 0]) ∧ Turn o o' (fun _ => False) w w' ∧ Act w' o' c d b t ps (keep0 t ps) 0
theorem New_act {o1 : Col} {c1 : Nat} {w : World} {t : Int} {ao : Option Addr} {n cap : Nat} {ps : List Int} (o : Col) (c d : Nat) (hcd : c ≠ d) (hg : goodP t ps) (hf : ∀ x ∈ ps, Fits x) (h : Ints w o1 c1 (.slice ao n cap) ps) : Calls Tryz.prog 43 #[.int .u8 t, .slice ao n cap] w (NewAct w o c d t ps) := by
 refine (New_ok o c d hcd hg hf h).mono ?_
 rintro e w' ⟨b, K, vi, vo, vt, vs, o', h1, h2, h3⟩
 exact ⟨b, o', h1, h2, K, vi, vo, vt, vs, h3⟩
def FireAct (w : World) (o : Col) (c d E b : Nat) (t : Int) (ps : List Int) (n : Int) (outs : List (List Int)) (keep' : List Int) (e : Ending) (w' : World) : Prop :=
 ∃ ov o', e = .returned (.tuple #[ov, .int .i64 0]) ∧ Turn o o' (fun x => x = c) w w' ∧ Act w' o' c d b t ps keep' (n + 1) ∧ Outs w' o' E ov outs
def FireNo (x : Int) (w : World) (e : Ending) (w' : World) : Prop := e = .returned (.tuple #[.slice none 0 0, .int .i64 x]) ∧ Below w.heap.size w w'
theorem Fire_act {w : World} {o : Col} {c d b : Nat} {t : Int} {ps keep keep' : List Int} {n : Int} {insv : Value} {xss outs : List (List Int)} (E : Nat) (hE : E ≠ c) (h : Act w o c d b t ps keep n) (hins : LL w insv xss) (hf : ∀ l ∈ xss, ∀ x ∈ l, Fits x) (hn1 : Fits (n + 1))
  (hfit : xss.map (fun l => (l.length : Int)) = insP t ps) (hr : reckP t ps keep xss = some (outs, keep')) : Calls Tryz.prog 64 #[.pointer (some ⟨b, 0, none⟩), insv] w (FireAct w o c d E b t ps n outs keep') := by
 obtain ⟨K, vi, vo, vt, vs, h⟩ := h
 refine (Fire_fit E hE h hins hf hn1 hfit hr).mono ?_
 rintro e w' ⟨ov, vs', o', h1, h2, h3, h4⟩
 exact ⟨ov, o', h1, h2, ⟨K, vi, vo, vt, vs', h3⟩, h4⟩
theorem Fire_fault {w : World} {o : Col} {c d b : Nat} {t : Int} {ps keep : List Int} {n : Int} {insv : Value} {xss : List (List Int)} (h : Act w o c d b t ps keep n) (hins : LL w insv xss) (hf : ∀ l ∈ xss, ∀ x ∈ l, Fits x) (hn1 : Fits (n + 1))
  (hfit : xss.map (fun l => (l.length : Int)) = insP t ps) (hr : reckP t ps keep xss = none) : Calls Tryz.prog 64 #[.pointer (some ⟨b, 0, none⟩), insv] w (FireNo 70 w) := by
 obtain ⟨K, vi, vo, vt, vs, h⟩ := h
 exact (Fire_fit (c + 1) (by omega) h hins hf hn1 hfit hr).mono fun e w' h => h
theorem Fire_arg {w : World} {o : Col} {c d b : Nat} {t : Int} {ps keep : List Int} {n : Int} {insv : Value} {xss : List (List Int)} (h : Act w o c d b t ps keep n) (hins : LL w insv xss) (hf : ∀ l ∈ xss, ∀ x ∈ l, Fits x) (hn1 : Fits (n + 1))
  (hfit : ¬ xss.map (fun l => (l.length : Int)) = insP t ps) : Calls Tryz.prog 64 #[.pointer (some ⟨b, 0, none⟩), insv] w (FireNo 1 w) := by
 obtain ⟨K, vi, vo, vt, vs, h⟩ := h
 exact (Fire_not h hins hf hn1 hfit).mono fun e w' h => h
theorem Shape_act {w : World} {o : Col} {c d b : Nat} {t : Int} {ps keep : List Int} {n : Int} (h : Act w o c d b t ps keep n) : Calls Tryz.prog 44 #[.pointer (some ⟨b, 0, none⟩)] w (Rated w (insP t ps) (outsP t ps)) := by
 obtain ⟨K, vi, vo, vt, vs, h⟩ := h
 exact Shape_body h
end Go.Proofs.YtaholpfikcdhbaaGreat

/- Weaving what was parted gives the row again. No program in sight. -/
namespace Go.Proofs.YtaholpfikcdhbaaGreat
theorem part_lens (n m : Nat) (l : List Int) : (partP n m l).map (fun r => (r.length : Int)) = List.replicate n (m : Int) := by
 refine List.ext_getElem (by simp [partP]) fun i h1 h2 => ?_
 simp [partP]
end Go.Proofs.YtaholpfikcdhbaaGreat

/- How many tokens a firing gives on each port. No program in sight. -/
namespace Go.Proofs.YtaholpfikcdhbaaGreat
open Go.RowKit
theorem reck_lens {t : Int} {ps keep keep' : List Int} {xss outs : List (List Int)} (hg : goodP t ps) (hfit : xss.map (fun l => (l.length : Int)) = insP t ps) (hr : reckP t ps keep xss = some (outs, keep')) : outs.map (fun l => (l.length : Int)) = outsP t ps := by
 unfold goodP at hg
 rcases hg with ⟨rfl, _⟩ | ⟨rfl, hg⟩ | ⟨rfl, hg⟩ | ⟨rfl, hg⟩ | ⟨rfl, hg⟩ | ⟨rfl, hg⟩ | ⟨rfl, _⟩ | ⟨rfl, _⟩ | ⟨rfl, hg⟩ | ⟨rfl, _⟩ | ⟨rfl, hg⟩
 ·
  simp only [reckP, if_true, Option.map_eq_some_iff] at hr
  obtain ⟨y, -, e⟩ := hr
  cases e; simp [outsP]
 ·
  obtain ⟨_, h1, h2⟩ := hg
  simp [reckP] at hr
  obtain ⟨rfl, -⟩ := hr
  simp [outsP]; omega
 ·
  simp [reckP] at hr
  obtain ⟨rfl, -⟩ := hr
  simp [outsP]
 ·
  obtain ⟨_, ⟨h1, h2⟩, ⟨h3, h4⟩, h5⟩ := hg
  simp [reckP] at hr
  obtain ⟨rfl, -⟩ := hr
  have hx : xss.length = (hd ps).toNat := by have := congrArg List.length hfit; simpa [insP] using this
  simp [outsP, weaveP_len, hx]
  rw [Int.max_eq_left (by omega), Int.max_eq_left (by omega), Int.mul_comm]
 ·
  obtain ⟨_, ⟨h1, h2⟩, ⟨h3, h4⟩, h5⟩ := hg
  simp [reckP] at hr
  obtain ⟨rfl, -⟩ := hr
  rw [part_lens]; simp [outsP]; omega
 ·
  simp [reckP] at hr
  obtain ⟨y, -, rfl, -⟩ := hr
  simp [outsP]
 ·
  simp [reckP] at hr
  obtain ⟨y, -, rfl, -⟩ := hr
  simp [outsP]
 ·
  simp [reckP] at hr
  obtain ⟨-, rfl, -⟩ := hr
  simp [outsP]
 ·
  simp [reckP] at hr
  obtain ⟨rfl, -⟩ := hr
  simp [outsP]
 ·
  simp [reckP] at hr
  obtain ⟨-, rfl, -⟩ := hr
  simp [outsP]
 ·
  simp [reckP] at hr
  obtain ⟨rfl, -⟩ := hr
  simp [outsP]
end Go.Proofs.YtaholpfikcdhbaaGreat

/- A firing, in one piece: what it answers, what is kept behind it; an actor of a machine in memory. -/
namespace Go.Proofs.YtaholpfikcdhbaaGreat
open Go.RowKit
structure Shot where
 err : Int
 outs : List (List Int)
 keep : List Int
 n : Int
def shot (t : Int) (ps keep : List Int) (n : Int) (xss : List (List Int)) : Shot :=
 if xss.map (fun l => (l.length : Int)) = insP t ps then
  match reckP t ps keep xss with
  | some (outs, keep') => ⟨0, outs, keep', n + 1⟩
  | none => ⟨70, [], keep, n⟩
 else ⟨1, [], keep, n⟩
theorem fire_uni {w : World} {o : Col} {c d b : Nat} {t : Int} {ps keep : List Int} {n : Int} {insv : Value} {xss : List (List Int)} (E : Nat) (hE : E ≠ c) (h : Act w o c d b t ps keep n) (hins : LL w insv xss) (hf : ∀ l ∈ xss, ∀ x ∈ l, Fits x) (hn1 : Fits (n + 1)) :
  Calls Tryz.prog 64 #[.pointer (some ⟨b, 0, none⟩), insv] w fun e w' => ∃ gv o', e = .returned (.tuple #[gv, .int .i64 (shot t ps keep n xss).err]) ∧ Turn o o' (fun x => x = c) w w' ∧ Act w' o' c d b t ps (shot t ps keep n xss).keep (shot t ps keep n xss).n ∧ Outs w' o' E gv (shot t ps keep n xss).outs := by
 unfold shot
 by_cases hfit : xss.map (fun l => (l.length : Int)) = insP t ps
 ·
  rw [if_pos hfit]
  rcases hr : reckP t ps keep xss with _ | ⟨outs, keep'⟩
  ·
   refine (Fire_fault h hins hf hn1 hfit hr).mono ?_
   rintro e w' ⟨rfl, hb⟩
   exact ⟨_, _, rfl, (Turn.of_below o E hb).mono (fun _ h => h.elim), h.below E hb, Outs.nil _ _ _⟩
  ·
   refine (Fire_act E hE h hins hf hn1 hfit hr).mono ?_
   rintro e w' ⟨ov, o', rfl, h1, h2, h3⟩
   exact ⟨ov, o', rfl, h1, h2, h3⟩
 ·
  rw [if_neg hfit]
  refine (Fire_arg h hins hf hn1 hfit).mono ?_
  rintro e w' ⟨rfl, hb⟩
  exact ⟨_, _, rfl, (Turn.of_below o E hb).mono (fun _ h => h.elim), h.below E hb, Outs.nil _ _ _⟩
theorem dotP_fits : ∀ (xs ys : List Int) (acc : Int) {y : Int}, Fits acc → dotP acc xs ys = some y → Fits y
 | [], _, acc, y, h, e => by simp [dotP] at e; rw [← e]; exact h
 | _ :: _, [], acc, y, h, e => by simp [dotP] at e; rw [← e]; exact h
 | x :: xs, z :: ys, acc, y, h, e => by
  rw [dotP] at e
  split at e
  ·
   rename_i h1
   exact dotP_fits xs ys _ h1.2 e
  ·
   cases e
theorem sumP_fits : ∀ (xs : List Int) (acc : Int) {y : Int}, Fits acc → sumP acc xs = some y → Fits y
 | [], acc, y, h, e => by simp [sumP] at e; rw [← e]; exact h
 | x :: xs, acc, y, h, e => by
  rw [sumP] at e
  split at e
  ·
   rename_i h1
   exact sumP_fits xs _ h1 e
  ·
   cases e
theorem quotP_fits {a b y : Int} (ha : Fits a) (h : quotP a b = some y) : Fits y := by
 unfold quotP at h
 split at h
 ·
  cases h
 ·
  split at h
  ·
   split at h
   ·
    rename_i h1
    rw [← Option.some.inj h]; exact h1
   ·
    cases h
  ·
   rename_i h0 h1
   rw [← Option.some.inj h]
   unfold Fits at ha ⊢
   by_cases hb : b = 1
   ·
    rw [hb, Int.tdiv_one]; exact ha
   ·
    have h2 : 2 ≤ b.natAbs := by omega
    have h3 : (a.tdiv b).natAbs = a.natAbs / b.natAbs := Int.natAbs_tdiv a b
    have h4 : a.natAbs / b.natAbs ≤ a.natAbs / 2 := Nat.div_le_div_left h2 (by omega)
    omega
theorem getD_fits {l : List Int} (h : ∀ x ∈ l, Fits x) (k : Nat) : Fits (l[k]?.getD 0) := by
 by_cases hk : k < l.length
 ·
  rw [List.getElem?_eq_getElem hk]
  exact h _ (List.getElem_mem hk)
 ·
  rw [List.getElem?_eq_none (by omega)]
  unfold Fits; decide
theorem row_fits {l : List (List Int)} (h : ∀ r ∈ l, ∀ x ∈ r, Fits x) (k : Nat) : ∀ x ∈ l[k]?.getD [], Fits x := by
 by_cases hk : k < l.length
 ·
  rw [List.getElem?_eq_getElem hk]
  exact h _ (List.getElem_mem hk)
 ·
  rw [List.getElem?_eq_none (by omega)]
  intro x hx
  cases hx
set_option maxHeartbeats 2000000 in
theorem reck_fits {t : Int} {ps keep keep' : List Int} {xss outs : List (List Int)} (_hp : ∀ x ∈ ps, Fits x) (hk : ∀ x ∈ keep, Fits x) (hx : ∀ l ∈ xss, ∀ x ∈ l, Fits x) (hr : reckP t ps keep xss = some (outs, keep')) : (∀ l ∈ outs, ∀ x ∈ l, Fits x) ∧ ∀ x ∈ keep', Fits x := by
 have f0 : Fits 0 := by unfold Fits; decide
 have hh : ∀ k, Fits (hd (xss[k]?.getD [])) := fun k => getD_fits (row_fits hx k) 0
 have one : ∀ y, Fits y → ∀ l ∈ [[y]], ∀ x ∈ l, Fits x := fun y hy l hl x hx => by
  rw [List.mem_singleton.1 hl] at hx
  rw [List.mem_singleton.1 hx]
  exact hy
 unfold reckP at hr
 split at hr
 ·
  obtain ⟨y, hy, e⟩ := Option.map_eq_some_iff.1 hr
  cases e
  refine ⟨one y (dotP_fits _ _ _ f0 hy), fun x hx => ?_⟩
  rcases List.mem_cons.1 (List.mem_of_mem_take hx) with rfl | hx
  ·
   exact hh 0
  ·
   exact hk x hx
 split at hr
 ·
  cases hr
  refine ⟨fun l hl x hx => ?_, hk⟩
  rw [List.mem_singleton.1 hl] at hx
  rcases List.mem_cons.1 hx with rfl | hx
  ·
   exact hh 0
  ·
   rw [(List.mem_replicate.1 hx).2]; exact f0
 split at hr
 ·
  cases hr
  exact ⟨one _ (hh 0), hk⟩
 split at hr
 ·
  cases hr
  refine ⟨fun l hl x hx' => ?_, hk⟩
  rw [List.mem_singleton.1 hl] at hx'
  obtain ⟨j, _, hx'⟩ := List.mem_flatMap.1 hx'
  obtain ⟨r, hr, rfl⟩ := List.mem_map.1 hx'
  exact getD_fits (hx r hr) j
 split at hr
 ·
  cases hr
  refine ⟨fun l hl x hx' => ?_, hk⟩
  obtain ⟨i, _, rfl⟩ := List.mem_map.1 hl
  obtain ⟨j, _, rfl⟩ := List.mem_map.1 hx'
  exact getD_fits (row_fits hx 0) _
 split at hr
 ·
  obtain ⟨y, hy, e⟩ := Option.map_eq_some_iff.1 hr
  cases e
  exact ⟨one y (sumP_fits _ _ f0 hy), hk⟩
 split at hr
 ·
  obtain ⟨y, hy, e⟩ := Option.map_eq_some_iff.1 hr
  cases e
  exact ⟨one y (quotP_fits (hh 0) hy), hk⟩
 split at hr
 ·
  split at hr
  ·
   rename_i h1
   cases hr
   refine ⟨one _ h1, fun x hx => ?_⟩
   rw [List.mem_singleton.1 hx]
   exact h1
  ·
   cases hr
 split at hr
 ·
  cases hr
  refine ⟨fun l hl x hx' => ?_, hk⟩
  rw [(List.mem_replicate.1 hl).2] at hx'
  rw [List.mem_singleton.1 hx']
  exact hh 0
 split at hr
 ·
  split at hr
  ·
   rename_i h1
   cases hr
   refine ⟨one _ (getD_fits hk 0), fun x hx => ?_⟩
   rw [List.mem_singleton.1 hx]
   exact h1
  ·
   cases hr
 ·
  cases hr
  exact ⟨(fun l hl => by cases hl), hk⟩
end Go.Proofs.YtaholpfikcdhbaaGreat

/- A rig of tasks and streams, plainly: what a step does; steps of different tasks do not disturb each other. No function in sight. -/
namespace Go.Proofs.YtaholpfikcdhbaaGreat
def upd {α : Type} (f : Nat → α) (i : Nat) (v : α) : Nat → α := fun j => if j = i then v else f j
theorem upd_same {α : Type} (f : Nat → α) (i : Nat) (v : α) : upd f i v i = v := by simp [upd]
theorem upd_other {α : Type} {f : Nat → α} {i j : Nat} {v : α} (h : j ≠ i) : upd f i v j = f j := by simp [upd, h]
theorem upd_comm {α : Type} (f : Nat → α) {i j : Nat} (h : i ≠ j) (v w : α) : upd (upd f i v) j w = upd (upd f j w) i v := by
 funext k
 unfold upd
 by_cases h1 : k = i
 ·
  subst h1
  rw [if_neg h, if_pos rfl]
  simp
 ·
  by_cases h2 : k = j
  ·
   subst h2
   simp [h1]
  ·
   simp [h1, h2]
theorem upd_twice {α : Type} (f : Nat → α) (i : Nat) (v w : α) : upd (upd f i v) i w = upd f i w := by
 funext k
 unfold upd
 split <;> rfl
structure TaskP where
 keep : List Int
 n : Int
 hand : List (List Int)
 gift : List (List Int)
 port : Nat
 gives : Bool
 whole : Nat
structure RigP where
 tasks : Nat → TaskP
 strs : Nat → List Int
def fromP (g : GGraph) (t p : Nat) : Nat :=
 match g.edges.findIdx? (fun e => decide (e.dst = (t : Int)) && decide (e.dport = (p : Int))) with
 | some i => i
 | none => match g.ins.findIdx? (fun e => decide (e.actor = (t : Int)) && decide (e.port = (p : Int))) with
  | some i => g.edges.length + i
  | none => g.edges.length + g.ins.length + g.outs.length + t
def toP (g : GGraph) (t p : Nat) : Nat :=
 match g.edges.findIdx? (fun e => decide (e.src = (t : Int)) && decide (e.sport = (p : Int))) with
 | some i => i
 | none => match g.outs.findIdx? (fun e => decide (e.actor = (t : Int)) && decide (e.port = (p : Int))) with
  | some i => g.edges.length + g.ins.length + i
  | none => g.edges.length + g.ins.length + g.outs.length + t
theorem from_task {g : GGraph} {t u p q : Nat} (h : fromP g t p = fromP g u q) : t = u := by
 have key : ∀ (t p : Nat), (∃ i e, fromP g t p = i ∧ i < g.edges.length ∧ g.edges[i]? = some e ∧ e.dst = (t : Int)) ∨ (∃ i e, fromP g t p = g.edges.length + i ∧ i < g.ins.length ∧ g.ins[i]? = some e ∧ e.actor = (t : Int)) ∨ fromP g t p = g.edges.length + g.ins.length + g.outs.length + t := by
  intro t p
  unfold fromP
  cases h1 : g.edges.findIdx? (fun e => decide (e.dst = (t : Int)) && decide (e.dport = (p : Int))) with
  | some i =>
   obtain ⟨hi, hp, _⟩ := List.findIdx?_eq_some_iff_getElem.1 h1
   simp at hp
   exact .inl ⟨i, g.edges[i], rfl, hi, List.getElem?_eq_getElem hi, hp.1⟩
  | none =>
   cases h2 : g.ins.findIdx? (fun e => decide (e.actor = (t : Int)) && decide (e.port = (p : Int))) with
   | some i =>
    obtain ⟨hi, hp, _⟩ := List.findIdx?_eq_some_iff_getElem.1 h2
    simp at hp
    exact .inr (.inl ⟨i, g.ins[i], rfl, hi, List.getElem?_eq_getElem hi, hp.1⟩)
   | none => exact .inr (.inr rfl)
 rcases key t p with ⟨i, e, h1, h2, h3, h4⟩ | ⟨i, e, h1, h2, h3, h4⟩ | h1 <;> rcases key u q with ⟨j, f, k1, k2, k3, k4⟩ | ⟨j, f, k1, k2, k3, k4⟩ | k1
 ·
  obtain rfl : i = j := by omega
  rw [h3] at k3
  cases k3
  omega
 ·
  omega
 ·
  omega
 ·
  omega
 ·
  obtain rfl : i = j := by omega
  rw [h3] at k3
  cases k3
  omega
 ·
  omega
 ·
  omega
 ·
  omega
 ·
  omega
theorem to_task {g : GGraph} {t u p q : Nat} (h : toP g t p = toP g u q) : t = u := by
 have key : ∀ (t p : Nat), (∃ i e, toP g t p = i ∧ i < g.edges.length ∧ g.edges[i]? = some e ∧ e.src = (t : Int)) ∨ (∃ i e, toP g t p = g.edges.length + g.ins.length + i ∧ i < g.outs.length ∧ g.outs[i]? = some e ∧ e.actor = (t : Int)) ∨ toP g t p = g.edges.length + g.ins.length + g.outs.length + t := by
  intro t p
  unfold toP
  cases h1 : g.edges.findIdx? (fun e => decide (e.src = (t : Int)) && decide (e.sport = (p : Int))) with
  | some i =>
   obtain ⟨hi, hp, _⟩ := List.findIdx?_eq_some_iff_getElem.1 h1
   simp at hp
   exact .inl ⟨i, g.edges[i], rfl, hi, List.getElem?_eq_getElem hi, hp.1⟩
  | none =>
   cases h2 : g.outs.findIdx? (fun e => decide (e.actor = (t : Int)) && decide (e.port = (p : Int))) with
   | some i =>
    obtain ⟨hi, hp, _⟩ := List.findIdx?_eq_some_iff_getElem.1 h2
    simp at hp
    exact .inr (.inl ⟨i, g.outs[i], rfl, hi, List.getElem?_eq_getElem hi, hp.1⟩)
   | none => exact .inr (.inr rfl)
 rcases key t p with ⟨i, e, h1, h2, h3, h4⟩ | ⟨i, e, h1, h2, h3, h4⟩ | h1 <;> rcases key u q with ⟨j, f, k1, k2, k3, k4⟩ | ⟨j, f, k1, k2, k3, k4⟩ | k1
 ·
  obtain rfl : i = j := by omega
  rw [h3] at k3
  cases k3
  omega
 ·
  omega
 ·
  omega
 ·
  omega
 ·
  obtain rfl : i = j := by omega
  rw [h3] at k3
  cases k3
  omega
 ·
  omega
 ·
  omega
 ·
  omega
 ·
  omega
def ratesI (g : GGraph) (t : Nat) : List Int := match g.actors[t]? with | some a => insP a.tag a.params | none => []
def ratesO (g : GGraph) (t : Nat) : List Int := match g.actors[t]? with | some a => outsP a.tag a.params | none => []
def shotP (g : GGraph) (t : Nat) (x : TaskP) : Shot := match g.actors[t]? with | some a => shot a.tag a.params x.keep x.n x.hand | none => shot 0 [] [] 0 []
def beginP (k : Nat) (x : TaskP) : TaskP := { x with hand := List.replicate k [], gift := [], port := 0, gives := false }
def finishP (k o : Nat) (x : TaskP) : TaskP := if x.port = o then beginP k { x with whole := x.whole + 1 } else x
def tookP (r : Int) (x : TaskP) (v : Int) : TaskP := { x with hand := x.hand.set x.port ((x.hand[x.port]?.getD []) ++ [v]), port := if (((x.hand[x.port]?.getD []).length : Int) + 1 = r) then x.port + 1 else x.port }
def nextP (x : TaskP) : Int := (x.gift[x.port]?.getD []).headD 0
def gaveP (k o : Nat) (x : TaskP) : TaskP := finishP k o { x with gift := x.gift.set x.port (x.gift[x.port]?.getD []).tail, port := if (x.gift[x.port]?.getD []).tail = [] then x.port + 1 else x.port }
def firedP (k o : Nat) (x : TaskP) (r : Shot) : TaskP := finishP k o { x with keep := r.keep, n := r.n, gift := r.outs, gives := true, port := 0 }
def fullP (caps : List Int) (s : RigP) (d : Nat) : Bool := match caps[d]? with | some c => decide (c ≤ (s.strs d).length) | none => false
def stepP (g : GGraph) (caps : List Int) (s : RigP) (t : Nat) : Stp RigP :=
 if g.actors.length ≤ t then .waits
 else if (s.tasks t).gives then
  (if fullP caps s (toP g t (s.tasks t).port) then .waits
  else .goes ⟨upd s.tasks t (gaveP (ratesI g t).length (ratesO g t).length (s.tasks t)), upd s.strs (toP g t (s.tasks t).port) (s.strs (toP g t (s.tasks t).port) ++ [nextP (s.tasks t)])⟩)
 else if (s.tasks t).port < (ratesI g t).length then
  (match s.strs (fromP g t (s.tasks t).port) with
  | [] => .waits
  | v :: r => .goes ⟨upd s.tasks t (tookP ((ratesI g t)[(s.tasks t).port]?.getD 0) (s.tasks t) v), upd s.strs (fromP g t (s.tasks t).port) r⟩)
 else if (shotP g t (s.tasks t)).err ≠ 0 then .fails
 else .goes ⟨upd s.tasks t (firedP (ratesI g t).length (ratesO g t).length (s.tasks t) (shotP g t (s.tasks t))), s.strs⟩
inductive Kind (g : GGraph) (caps : List Int) (s : RigP) (t : Nat) : RigP → Prop where
 | give (x : TaskP) (h : (s.tasks t).gives = true) (hf : fullP caps s (toP g t (s.tasks t).port) = false) (hx : x = gaveP (ratesI g t).length (ratesO g t).length (s.tasks t)) :
  Kind g caps s t ⟨upd s.tasks t x, upd s.strs (toP g t (s.tasks t).port) (s.strs (toP g t (s.tasks t).port) ++ [nextP (s.tasks t)])⟩
 | take (x : TaskP) (v : Int) (r : List Int) (h : (s.tasks t).gives = false) (hp : (s.tasks t).port < (ratesI g t).length) (hv : s.strs (fromP g t (s.tasks t).port) = v :: r) (hx : x = tookP ((ratesI g t)[(s.tasks t).port]?.getD 0) (s.tasks t) v) :
  Kind g caps s t ⟨upd s.tasks t x, upd s.strs (fromP g t (s.tasks t).port) r⟩
 | fire (x : TaskP) (h : (s.tasks t).gives = false) (hp : ¬ (s.tasks t).port < (ratesI g t).length) (he : (shotP g t (s.tasks t)).err = 0) (hx : x = firedP (ratesI g t).length (ratesO g t).length (s.tasks t) (shotP g t (s.tasks t))) :
  Kind g caps s t ⟨upd s.tasks t x, s.strs⟩
theorem step_kind {g : GGraph} {caps : List Int} {s s1 : RigP} {t : Nat} : stepP g caps s t = .goes s1 ↔ t < g.actors.length ∧ Kind g caps s t s1 := by
 constructor
 ·
  intro h
  unfold stepP at h
  split at h
  ·
   cases h
  ·
   rename_i ht
   refine ⟨by omega, ?_⟩
   split at h
   ·
    rename_i hg
    split at h
    ·
     cases h
    ·
     rename_i hf
     cases h
     exact .give _ hg (by simpa using hf) rfl
   ·
    rename_i hg
    have hg : (s.tasks t).gives = false := by simpa using hg
    split at h
    ·
     rename_i hp
     split at h
     ·
      cases h
     ·
      rename_i v r hv
      cases h
      exact .take _ v r hg hp hv rfl
    ·
     rename_i hp
     split at h
     ·
      cases h
     ·
      rename_i he
      cases h
      exact .fire _ hg hp (by simpa using he) rfl
 ·
  rintro ⟨ht, hk⟩
  unfold stepP
  rw [if_neg (by omega)]
  cases hk with
  | give x h hf hx => rw [if_pos h, if_neg (by simp [hf]), hx]
  | take x v r h hp hv hx => rw [if_neg (by simp [h]), if_pos hp, hv, hx]
  | fire x h hp he hx => rw [if_neg (by simp [h]), if_neg hp, if_neg (by simp [he]), hx]
theorem full_upd {caps : List Int} {s : RigP} {x : Nat → TaskP} {c d : Nat} {l : List Int} (h : c ≠ d) : fullP caps ⟨x, upd s.strs c l⟩ d = fullP caps s d := by
 unfold fullP
 simp only [upd_other (Ne.symm h)]
theorem full_less {caps : List Int} {s : RigP} {x : Nat → TaskP} {d : Nat} {v : Int} {r : List Int} (hv : s.strs d = v :: r) (h : fullP caps s d = false) : fullP caps ⟨x, upd s.strs d r⟩ d = false := by
 unfold fullP at h ⊢
 simp only [upd_same]
 rw [hv] at h
 cases hc : caps[d]? with
 | none => rfl
 | some c =>
  rw [hc] at h
  simp at h ⊢
  omega
theorem step_swap {g : GGraph} {caps : List Int} {s s1 s2 : RigP} {t u : Nat} (htu : t ≠ u) (h1 : stepP g caps s t = .goes s1) (h2 : stepP g caps s u = .goes s2) : ∃ s3, stepP g caps s1 u = .goes s3 ∧ stepP g caps s2 t = .goes s3 := by
 obtain ⟨ht, k1⟩ := step_kind.1 h1
 obtain ⟨hu, k2⟩ := step_kind.1 h2
 have eu : ∀ (x : TaskP), upd s.tasks t x u = s.tasks u := fun x => upd_other (Ne.symm htu)
 have et : ∀ (x : TaskP), upd s.tasks u x t = s.tasks t := fun x => upd_other htu
 cases k1 with
 | give x h hf hx =>
  cases k2 with
  | give y k kf ky =>
   have hd : toP g t (s.tasks t).port ≠ toP g u (s.tasks u).port := fun e => htu (to_task e)
   refine ⟨⟨upd (upd s.tasks t x) u y, upd (upd s.strs (toP g t (s.tasks t).port) (s.strs (toP g t (s.tasks t).port) ++ [nextP (s.tasks t)])) (toP g u (s.tasks u).port) (s.strs (toP g u (s.tasks u).port) ++ [nextP (s.tasks u)])⟩, step_kind.2 ⟨hu, ?_⟩, step_kind.2 ⟨ht, ?_⟩⟩
   ·
    have := Kind.give (g := g) (caps := caps) (s := ⟨upd s.tasks t x, upd s.strs (toP g t (s.tasks t).port) (s.strs (toP g t (s.tasks t).port) ++ [nextP (s.tasks t)])⟩) (t := u) y (by simp only [eu]; exact k) (by simp only [eu]; rw [full_upd hd]; exact kf) (by simp only [eu]; exact ky)
    simp only [eu, upd_other (Ne.symm hd)] at this
    exact this
   ·
    rw [upd_comm _ htu, upd_comm _ hd]
    have := Kind.give (g := g) (caps := caps) (s := ⟨upd s.tasks u y, upd s.strs (toP g u (s.tasks u).port) (s.strs (toP g u (s.tasks u).port) ++ [nextP (s.tasks u)])⟩) (t := t) x (by simp only [et]; exact h) (by simp only [et]; rw [full_upd (Ne.symm hd)]; exact hf) (by simp only [et]; exact hx)
    simp only [et, upd_other hd] at this
    exact this
  | take y v r k kp kv ky =>
   by_cases hd : toP g t (s.tasks t).port = fromP g u (s.tasks u).port
   ·
    refine ⟨⟨upd (upd s.tasks t x) u y, upd s.strs (fromP g u (s.tasks u).port) (r ++ [nextP (s.tasks t)])⟩, step_kind.2 ⟨hu, ?_⟩, step_kind.2 ⟨ht, ?_⟩⟩
    ·
     have := Kind.take (g := g) (caps := caps) (s := ⟨upd s.tasks t x, upd s.strs (toP g t (s.tasks t).port) (s.strs (toP g t (s.tasks t).port) ++ [nextP (s.tasks t)])⟩) (t := u) y v (r ++ [nextP (s.tasks t)]) (by simp only [eu]; exact k) (by simp only [eu]; exact kp) (by simp only [eu]; rw [← hd, upd_same, hd, kv]; rfl) (by simp only [eu]; exact ky)
     simp only [eu] at this
     rw [hd, upd_twice] at this
     rw [hd]
     exact this
    ·
     have := Kind.give (g := g) (caps := caps) (s := ⟨upd s.tasks u y, upd s.strs (fromP g u (s.tasks u).port) r⟩) (t := t) x (by simp only [et]; exact h) (by simp only [et]; rw [← hd] at kv ⊢; exact full_less kv hf) (by simp only [et]; exact hx)
     simp only [et] at this
     rw [hd, upd_same, upd_twice] at this
     rw [upd_comm _ htu]
     exact this
   ·
    refine ⟨⟨upd (upd s.tasks t x) u y, upd (upd s.strs (toP g t (s.tasks t).port) (s.strs (toP g t (s.tasks t).port) ++ [nextP (s.tasks t)])) (fromP g u (s.tasks u).port) r⟩, step_kind.2 ⟨hu, ?_⟩, step_kind.2 ⟨ht, ?_⟩⟩
    ·
     have := Kind.take (g := g) (caps := caps) (s := ⟨upd s.tasks t x, upd s.strs (toP g t (s.tasks t).port) (s.strs (toP g t (s.tasks t).port) ++ [nextP (s.tasks t)])⟩) (t := u) y v r (by simp only [eu]; exact k) (by simp only [eu]; exact kp) (by simp only [eu]; rw [upd_other (Ne.symm hd)]; exact kv) (by simp only [eu]; exact ky)
     simp only [eu] at this
     exact this
    ·
     rw [upd_comm _ htu, upd_comm _ hd]
     have := Kind.give (g := g) (caps := caps) (s := ⟨upd s.tasks u y, upd s.strs (fromP g u (s.tasks u).port) r⟩) (t := t) x (by simp only [et]; exact h) (by simp only [et]; rw [full_upd (Ne.symm hd)]; exact hf) (by simp only [et]; exact hx)
     simp only [et, upd_other hd] at this
     exact this
  | fire y k kp ke ky =>
   refine ⟨⟨upd (upd s.tasks t x) u y, upd s.strs (toP g t (s.tasks t).port) (s.strs (toP g t (s.tasks t).port) ++ [nextP (s.tasks t)])⟩, step_kind.2 ⟨hu, ?_⟩, step_kind.2 ⟨ht, ?_⟩⟩
   ·
    have := Kind.fire (g := g) (caps := caps) (s := ⟨upd s.tasks t x, upd s.strs (toP g t (s.tasks t).port) (s.strs (toP g t (s.tasks t).port) ++ [nextP (s.tasks t)])⟩) (t := u) y (by simp only [eu]; exact k) (by simp only [eu]; exact kp) (by simp only [eu]; exact ke) (by simp only [eu]; exact ky)
    exact this
   ·
    rw [upd_comm _ htu]
    have := Kind.give (g := g) (caps := caps) (s := ⟨upd s.tasks u y, s.strs⟩) (t := t) x (by simp only [et]; exact h) (by simp only [et]; exact hf) (by simp only [et]; exact hx)
    simp only [et] at this
    exact this
 | take x v r h hp hv hx =>
  cases k2 with
  | give y k kf ky =>
   by_cases hd : fromP g t (s.tasks t).port = toP g u (s.tasks u).port
   ·
    refine ⟨⟨upd (upd s.tasks t x) u y, upd s.strs (fromP g t (s.tasks t).port) (r ++ [nextP (s.tasks u)])⟩, step_kind.2 ⟨hu, ?_⟩, step_kind.2 ⟨ht, ?_⟩⟩
    ·
     have := Kind.give (g := g) (caps := caps) (s := ⟨upd s.tasks t x, upd s.strs (fromP g t (s.tasks t).port) r⟩) (t := u) y (by simp only [eu]; exact k) (by simp only [eu]; rw [hd] at hv ⊢; exact full_less hv kf) (by simp only [eu]; exact ky)
     simp only [eu] at this
     rw [← hd, upd_same, upd_twice] at this
     exact this
    ·
     have := Kind.take (g := g) (caps := caps) (s := ⟨upd s.tasks u y, upd s.strs (toP g u (s.tasks u).port) (s.strs (toP g u (s.tasks u).port) ++ [nextP (s.tasks u)])⟩) (t := t) x v (r ++ [nextP (s.tasks u)]) (by simp only [et]; exact h) (by simp only [et]; exact hp) (by simp only [et]; rw [hd, upd_same, ← hd, hv]; rfl) (by simp only [et]; exact hx)
     simp only [et] at this
     rw [← hd, upd_twice] at this
     rw [upd_comm _ htu, ← hd]
     exact this
   ·
    refine ⟨⟨upd (upd s.tasks t x) u y, upd (upd s.strs (fromP g t (s.tasks t).port) r) (toP g u (s.tasks u).port) (s.strs (toP g u (s.tasks u).port) ++ [nextP (s.tasks u)])⟩, step_kind.2 ⟨hu, ?_⟩, step_kind.2 ⟨ht, ?_⟩⟩
    ·
     have := Kind.give (g := g) (caps := caps) (s := ⟨upd s.tasks t x, upd s.strs (fromP g t (s.tasks t).port) r⟩) (t := u) y (by simp only [eu]; exact k) (by simp only [eu]; rw [full_upd hd]; exact kf) (by simp only [eu]; exact ky)
     simp only [eu, upd_other (Ne.symm hd)] at this
     exact this
    ·
     rw [upd_comm _ htu, upd_comm _ hd]
     have := Kind.take (g := g) (caps := caps) (s := ⟨upd s.tasks u y, upd s.strs (toP g u (s.tasks u).port) (s.strs (toP g u (s.tasks u).port) ++ [nextP (s.tasks u)])⟩) (t := t) x v r (by simp only [et]; exact h) (by simp only [et]; exact hp) (by simp only [et]; rw [upd_other hd]; exact hv) (by simp only [et]; exact hx)
     simp only [et] at this
     exact this
  | take y w q k kp kv ky =>
   have hd : fromP g t (s.tasks t).port ≠ fromP g u (s.tasks u).port := fun e => htu (from_task e)
   refine ⟨⟨upd (upd s.tasks t x) u y, upd (upd s.strs (fromP g t (s.tasks t).port) r) (fromP g u (s.tasks u).port) q⟩, step_kind.2 ⟨hu, ?_⟩, step_kind.2 ⟨ht, ?_⟩⟩
   ·
    have := Kind.take (g := g) (caps := caps) (s := ⟨upd s.tasks t x, upd s.strs (fromP g t (s.tasks t).port) r⟩) (t := u) y w q (by simp only [eu]; exact k) (by simp only [eu]; exact kp) (by simp only [eu]; rw [upd_other (Ne.symm hd)]; exact kv) (by simp only [eu]; exact ky)
    simp only [eu] at this
    exact this
   ·
    rw [upd_comm _ htu, upd_comm _ hd]
    have := Kind.take (g := g) (caps := caps) (s := ⟨upd s.tasks u y, upd s.strs (fromP g u (s.tasks u).port) q⟩) (t := t) x v r (by simp only [et]; exact h) (by simp only [et]; exact hp) (by simp only [et]; rw [upd_other hd]; exact hv) (by simp only [et]; exact hx)
    simp only [et] at this
    exact this
  | fire y k kp ke ky =>
   refine ⟨⟨upd (upd s.tasks t x) u y, upd s.strs (fromP g t (s.tasks t).port) r⟩, step_kind.2 ⟨hu, ?_⟩, step_kind.2 ⟨ht, ?_⟩⟩
   ·
    exact Kind.fire (g := g) (caps := caps) (s := ⟨upd s.tasks t x, upd s.strs (fromP g t (s.tasks t).port) r⟩) (t := u) y (by simp only [eu]; exact k) (by simp only [eu]; exact kp) (by simp only [eu]; exact ke) (by simp only [eu]; exact ky)
   ·
    rw [upd_comm _ htu]
    have := Kind.take (g := g) (caps := caps) (s := ⟨upd s.tasks u y, s.strs⟩) (t := t) x v r (by simp only [et]; exact h) (by simp only [et]; exact hp) (by simp only [et]; exact hv) (by simp only [et]; exact hx)
    simp only [et] at this
    exact this
 | fire x h hp he hx =>
  cases k2 with
  | give y k kf ky =>
   refine ⟨⟨upd (upd s.tasks t x) u y, upd s.strs (toP g u (s.tasks u).port) (s.strs (toP g u (s.tasks u).port) ++ [nextP (s.tasks u)])⟩, step_kind.2 ⟨hu, ?_⟩, step_kind.2 ⟨ht, ?_⟩⟩
   ·
    have := Kind.give (g := g) (caps := caps) (s := ⟨upd s.tasks t x, s.strs⟩) (t := u) y (by simp only [eu]; exact k) (by simp only [eu]; exact kf) (by simp only [eu]; exact ky)
    simp only [eu] at this
    exact this
   ·
    rw [upd_comm _ htu]
    exact Kind.fire (g := g) (caps := caps) (s := ⟨upd s.tasks u y, upd s.strs (toP g u (s.tasks u).port) (s.strs (toP g u (s.tasks u).port) ++ [nextP (s.tasks u)])⟩) (t := t) x (by simp only [et]; exact h) (by simp only [et]; exact hp) (by simp only [et]; exact he) (by simp only [et]; exact hx)
  | take y v r k kp kv ky =>
   refine ⟨⟨upd (upd s.tasks t x) u y, upd s.strs (fromP g u (s.tasks u).port) r⟩, step_kind.2 ⟨hu, ?_⟩, step_kind.2 ⟨ht, ?_⟩⟩
   ·
    have := Kind.take (g := g) (caps := caps) (s := ⟨upd s.tasks t x, s.strs⟩) (t := u) y v r (by simp only [eu]; exact k) (by simp only [eu]; exact kp) (by simp only [eu]; exact kv) (by simp only [eu]; exact ky)
    simp only [eu] at this
    exact this
   ·
    rw [upd_comm _ htu]
    exact Kind.fire (g := g) (caps := caps) (s := ⟨upd s.tasks u y, upd s.strs (fromP g u (s.tasks u).port) r⟩) (t := t) x (by simp only [et]; exact h) (by simp only [et]; exact hp) (by simp only [et]; exact he) (by simp only [et]; exact hx)
  | fire y k kp ke ky =>
   refine ⟨⟨upd (upd s.tasks t x) u y, s.strs⟩, step_kind.2 ⟨hu, ?_⟩, step_kind.2 ⟨ht, ?_⟩⟩
   ·
    exact Kind.fire (g := g) (caps := caps) (s := ⟨upd s.tasks t x, s.strs⟩) (t := u) y (by simp only [eu]; exact k) (by simp only [eu]; exact kp) (by simp only [eu]; exact ke) (by simp only [eu]; exact ky)
   ·
    rw [upd_comm _ htu]
    exact Kind.fire (g := g) (caps := caps) (s := ⟨upd s.tasks u y, s.strs⟩) (t := t) x (by simp only [et]; exact h) (by simp only [et]; exact hp) (by simp only [et]; exact he) (by simp only [et]; exact hx)
theorem step_fails {g : GGraph} {caps : List Int} {s : RigP} {t : Nat} : stepP g caps s t = .fails ↔ t < g.actors.length ∧ (s.tasks t).gives = false ∧ ¬ (s.tasks t).port < (ratesI g t).length ∧ (shotP g t (s.tasks t)).err ≠ 0 := by
 unfold stepP
 split
 ·
  rename_i h
  exact ⟨fun h => (by cases h), fun k => by omega⟩
 ·
  rename_i h
  split
  ·
   rename_i hg
   refine ⟨fun h => ?_, fun k => by rw [hg] at k; exact absurd k.2.1 (by simp)⟩
   split at h <;> cases h
  ·
   rename_i hg
   split
   ·
    rename_i hp
    refine ⟨fun h => ?_, fun k => absurd hp k.2.2.1⟩
    split at h <;> cases h
   ·
    rename_i hp
    split
    ·
     rename_i he
     exact ⟨fun _ => ⟨by omega, by simpa using hg, hp, he⟩, fun _ => rfl⟩
    ·
     rename_i he
     exact ⟨fun h => (by cases h), fun k => absurd k.2.2.2 he⟩
theorem step_falls {g : GGraph} {caps : List Int} {s s2 : RigP} {t u : Nat} (htu : t ≠ u) (h1 : stepP g caps s t = .fails) (h2 : stepP g caps s u = .goes s2) : stepP g caps s2 t = .fails := by
 rw [step_fails] at h1 ⊢
 have e : s2.tasks t = s.tasks t := by
  obtain ⟨hu, k2⟩ := step_kind.1 h2
  cases k2 <;> exact upd_other htu
 rw [e]
 exact h1
def rigK (g : GGraph) (caps : List Int) : Kahn RigP := ⟨stepP g caps, step_swap, step_falls⟩
end Go.Proofs.YtaholpfikcdhbaaGreat

/- What is wrong with a graph, as the reference tells it: the same. And what a graph that is sound has. No function in sight. -/
namespace Go.Proofs.YtaholpfikcdhbaaGreat
def outT (g : GGraph) (e o : Nat) (a p : Int) : Bool := (g.edges.take e).any (fun x => decide (x.src = a) && decide (x.sport = p)) || (g.outs.take o).any (fun x => decide (x.actor = a) && decide (x.port = p))
def inT (g : GGraph) (e o : Nat) (a p : Int) : Bool := (g.edges.take e).any (fun x => decide (x.dst = a) && decide (x.dport = p)) || (g.ins.take o).any (fun x => decide (x.actor = a) && decide (x.port = p))
def endR (g : GGraph) (L : Nat → List Int) (a p : Int) (taken : Bool) : Int :=
 if a < 0 ∨ (g.actors.length : Int) ≤ a then 84 else if p < 0 ∨ ((L a.toNat).length : Int) ≤ p then 85 else if taken then 86 else 0
def namedR (g : GGraph) (n i o : Nat) (s : ByteArray) : Bool := (g.actors.take n).any (fun x => decide (x.name = s)) || (g.ins.take i).any (fun x => decide (x.name = s)) || (g.outs.take o).any (fun x => decide (x.name = s))
def nameR (s : ByteArray) (b : Bool) : Int := if nameP s then (if b then 83 else 0) else 82
def actorR (g : GGraph) (i : Nat) (a : GActor) : Int := if nameR a.name (namedR g i 0 0 a.name) ≠ 0 then nameR a.name (namedR g i 0 0 a.name) else if goodP a.tag a.params then 0 else errP a.tag
def actorsR (g : GGraph) : Nat → List GActor → Int
 | _, [] => 0
 | i, a :: r => if actorR g i a ≠ 0 then actorR g i a else actorsR g (i + 1) r
def edgeR (g : GGraph) (i : Nat) (x : GEdge) : Int :=
 if endR g (ratesO g) x.src x.sport (outT g i 0 x.src x.sport) ≠ 0 then endR g (ratesO g) x.src x.sport (outT g i 0 x.src x.sport)
 else if endR g (ratesI g) x.dst x.dport (inT g i 0 x.dst x.dport) ≠ 0 then endR g (ratesI g) x.dst x.dport (inT g i 0 x.dst x.dport) else if 256 < x.start.length then 88 else 0
def edgesR (g : GGraph) : Nat → List GEdge → Int
 | _, [] => 0
 | i, x :: r => if edgeR g i x ≠ 0 then edgeR g i x else edgesR g (i + 1) r
def inR (g : GGraph) (i : Nat) (x : GPort) : Int := if nameR x.name (namedR g g.actors.length i 0 x.name) ≠ 0 then nameR x.name (namedR g g.actors.length i 0 x.name) else endR g (ratesI g) x.actor x.port (inT g g.edges.length i x.actor x.port)
def insR (g : GGraph) : Nat → List GPort → Int
 | _, [] => 0
 | i, x :: r => if inR g i x ≠ 0 then inR g i x else insR g (i + 1) r
def outR (g : GGraph) (i : Nat) (x : GPort) : Int := if nameR x.name (namedR g g.actors.length g.ins.length i x.name) ≠ 0 then nameR x.name (namedR g g.actors.length g.ins.length i x.name) else endR g (ratesO g) x.actor x.port (outT g g.edges.length i x.actor x.port)
def outsR (g : GGraph) : Nat → List GPort → Int
 | _, [] => 0
 | i, x :: r => if outR g i x ≠ 0 then outR g i x else outsR g (i + 1) r
def openR1 (g : GGraph) (i : Nat) : Bool := (List.range (ratesI g i).length).any (fun k => !inT g g.edges.length g.ins.length i k) || (List.range (ratesO g i).length).any (fun k => !outT g g.edges.length g.outs.length i k)
def openR (g : GGraph) : Int := if (List.range g.actors.length).any (openR1 g) then 87 else 0
def refE (g : GGraph) : Int :=
 if headE g ≠ 0 then headE g
 else if actorsR g 0 g.actors ≠ 0 then actorsR g 0 g.actors
 else if edgesR g 0 g.edges ≠ 0 then edgesR g 0 g.edges
 else if insR g 0 g.ins ≠ 0 then insR g 0 g.ins
 else if outsR g 0 g.outs ≠ 0 then outsR g 0 g.outs
 else openR g
structure SideIs (side : List (List Bool)) (g : GGraph) (L : Nat → List Int) (f : Int → Int → Bool) : Prop where
 len : side.length = g.actors.length
 row : ∀ a, a < g.actors.length → (side[a]?.getD []).length = (L a).length
 mark : ∀ a p, a < g.actors.length → p < (L a).length → (side[a]?.getD [])[p]?.getD false = f a p
theorem SideIs.take {side : List (List Bool)} {g : GGraph} {L : Nat → List Int} {f : Int → Int → Bool} (h : SideIs side g L f) (a p : Int) : takeE side a p = endR g L a p (f a p) := by
 unfold takeE endR
 rw [h.len]
 by_cases h1 : a < 0 ∨ (g.actors.length : Int) ≤ a
 ·
  rw [if_pos h1, if_pos h1]
 rw [if_neg h1, if_neg h1]
 have ha : a.toNat < g.actors.length := by omega
 unfold side1
 rw [h.row _ ha]
 by_cases h2 : p < 0 ∨ ((L a.toNat).length : Int) ≤ p
 ·
  rw [if_pos h2, if_pos h2]
 rw [if_neg h2, if_neg h2]
 have hp : p.toNat < (L a.toNat).length := by omega
 rw [h.mark _ _ ha hp, Int.toNat_of_nonneg (by omega), Int.toNat_of_nonneg (by omega)]
theorem SideIs.set {side : List (List Bool)} {g : GGraph} {L : Nat → List Int} {f : Int → Int → Bool} (h : SideIs side g L f) {a p : Int} (he : takeE side a p = 0) : SideIs (takeS side a p) g L (fun x y => f x y || (decide (a = x) && decide (p = y))) := by
 unfold takeE at he
 split at he
 ·
  cases he
 rename_i h1
 split at he
 ·
  cases he
 rename_i h2
 rw [h.len] at h1
 have ha : a.toNat < side.length := by rw [h.len]; omega
 unfold takeS
 refine ⟨by rw [List.length_set, h.len], fun x hx => ?_, fun x y hx hy => ?_⟩
 ·
  by_cases e : a.toNat = x
  ·
   subst e
   rw [List.getElem?_set_self ha]
   simp only [Option.getD_some, List.length_set]
   exact h.row _ hx
  ·
   rw [List.getElem?_set_ne e]
   exact h.row _ hx
 ·
  by_cases e : a.toNat = x
  ·
   subst e
   rw [List.getElem?_set_self ha]
   simp only [Option.getD_some]
   have hm := h.mark _ _ hx hy
   have hyl : y < (side1 side a).length := by unfold side1; rw [h.row _ hx]; exact hy
   by_cases e2 : p.toNat = y
   ·
    subst e2
    rw [List.getElem?_set_self hyl]
    have : decide (a = ((a.toNat : Nat) : Int)) = true ∧ decide (p = ((p.toNat : Nat) : Int)) = true := by simp; omega
    rw [this.1, this.2]
    simp
   ·
    rw [List.getElem?_set_ne e2]
    have : decide (p = (y : Int)) = false := by simp; omega
    rw [this]
    simp only [Bool.and_false, Bool.or_false]
    exact hm
  ·
   rw [List.getElem?_set_ne e]
   have : decide (a = (x : Int)) = false := by simp; omega
   rw [this]
   simp only [Bool.false_and, Bool.or_false]
   exact h.mark _ _ hx hy
theorem SideIs.congr {side : List (List Bool)} {g : GGraph} {L : Nat → List Int} {f f' : Int → Int → Bool} (h : SideIs side g L f) (e : ∀ x y, f x y = f' x y) : SideIs side g L f' := ⟨h.len, h.row, fun a p ha hp => by rw [← e]; exact h.mark a p ha hp⟩
theorem take_any {α : Type} (l : List α) (f : α → Bool) {i : Nat} (h : i < l.length) : (l.take (i + 1)).any f = ((l.take i).any f || f l[i]) := by
 rw [List.take_succ_eq_append_getElem h, List.any_append]
 simp
theorem nameE_is (seen : List ByteArray) (s : ByteArray) : nameE seen s = nameR s (seen.any fun x => decide (x = s)) := rfl
theorem actors_same (g : GGraph) : ∀ (l : List GActor) (i : Nat) (c : Chk), g.actors.drop i = l → c.seen = (g.actors.take i).map GActor.name → actorsE c l = actorsR g i l
 | [], _, _, _, _ => rfl
 | a :: r, i, c, hd, hs => by
  have hi : i < g.actors.length := by
   rcases Nat.lt_or_ge i g.actors.length with h | h
   ·
    exact h
   ·
    rw [List.drop_eq_nil_of_le h] at hd; cases hd
  rw [List.drop_eq_getElem_cons hi] at hd
  injection hd with h1 h2
  have e : actorE c.seen a = actorR g i a := by
   unfold actorE actorR
   rw [nameE_is, hs, List.any_map]
   unfold namedR
   simp only [List.take_zero, List.any_nil, Bool.or_false]
   rfl
  rw [actorsE, actorsR, e]
  split
  ·
   rfl
  ·
   refine actors_same g r (i + 1) (actorC c a) h2 ?_
   show c.seen ++ [a.name] = _
   rw [hs, List.take_succ_eq_append_getElem hi, List.map_append, ← h1]
   rfl
structure Known (g : GGraph) (c : Chk) (i o e : Nat) : Prop where
 seen : c.seen = g.actors.map GActor.name
 ins : SideIs c.ins g (ratesI g) (inT g e 0)
 outs : SideIs c.outs g (ratesO g) (outT g e 0)
theorem chk1_is (g : GGraph) : ∀ (l : List GActor) (i : Nat) (c : Chk), g.actors.drop i = l → i ≤ g.actors.length →
  c.seen = (g.actors.take i).map GActor.name ∧ c.ins = (g.actors.take i).map (fun a => List.replicate (insP a.tag a.params).length false) ∧ c.outs = (g.actors.take i).map (fun a => List.replicate (outsP a.tag a.params).length false) →
  (actorsC c l).seen = g.actors.map GActor.name ∧ (actorsC c l).ins = g.actors.map (fun a => List.replicate (insP a.tag a.params).length false) ∧ (actorsC c l).outs = g.actors.map (fun a => List.replicate (outsP a.tag a.params).length false)
 | [], i, c, hd, hi, h => by
  have : g.actors.length ≤ i := by
   rcases Nat.lt_or_ge i g.actors.length with h | h
   ·
    rw [List.drop_eq_getElem_cons h] at hd; cases hd
   ·
    exact h
  rw [List.take_of_length_le this] at h
  exact h
 | a :: r, i, c, hd, hi0, h => by
  have hi : i < g.actors.length := by
   rcases Nat.lt_or_ge i g.actors.length with h | h
   ·
    exact h
   ·
    rw [List.drop_eq_nil_of_le h] at hd; cases hd
  rw [List.drop_eq_getElem_cons hi] at hd
  injection hd with h1 h2
  refine chk1_is g r (i + 1) (actorC c a) h2 hi ?_
  rw [List.take_succ_eq_append_getElem hi, List.map_append, List.map_append, List.map_append, ← h.1, ← h.2.1, ← h.2.2, h1]
  exact ⟨rfl, rfl, rfl⟩
theorem rates_at {g : GGraph} {a : Nat} (h : a < g.actors.length) : ratesI g a = insP g.actors[a].tag g.actors[a].params ∧ ratesO g a = outsP g.actors[a].tag g.actors[a].params := by
 unfold ratesI ratesO
 rw [List.getElem?_eq_getElem h]
 exact ⟨rfl, rfl⟩
theorem known_start (g : GGraph) : Known g (chk1 g) 0 0 0 := by
 obtain ⟨h1, h2, h3⟩ := chk1_is g g.actors 0 chk0 rfl (Nat.zero_le _) ⟨rfl, rfl, rfl⟩
 refine ⟨h1, ⟨by show (actorsC chk0 g.actors).ins.length = _; rw [h2, List.length_map], fun a ha => ?_, fun a p ha hp => ?_⟩, ⟨by show (actorsC chk0 g.actors).outs.length = _; rw [h3, List.length_map], fun a ha => ?_, fun a p ha hp => ?_⟩⟩
 ·
  show ((actorsC chk0 g.actors).ins[a]?.getD []).length = _
  rw [h2, List.getElem?_map, List.getElem?_eq_getElem ha, (rates_at ha).1]
  simp
 ·
  show ((actorsC chk0 g.actors).ins[a]?.getD [])[p]?.getD false = _
  rw [(rates_at ha).1] at hp
  rw [h2, List.getElem?_map, List.getElem?_eq_getElem ha]
  simp [inT, hp]
 ·
  show ((actorsC chk0 g.actors).outs[a]?.getD []).length = _
  rw [h3, List.getElem?_map, List.getElem?_eq_getElem ha, (rates_at ha).2]
  simp
 ·
  show ((actorsC chk0 g.actors).outs[a]?.getD [])[p]?.getD false = _
  rw [(rates_at ha).2] at hp
  rw [h3, List.getElem?_map, List.getElem?_eq_getElem ha]
  simp [outT, hp]
theorem edges_same (g : GGraph) : ∀ (l : List GEdge) (i : Nat) (c : Chk), g.edges.drop i = l → i ≤ g.edges.length → Known g c 0 0 i → edgesE c l = edgesR g i l ∧ (edgesE c l = 0 → Known g (edgesC c l) 0 0 g.edges.length)
 | [], i, c, hd, hi, h => by
  have : g.edges.length ≤ i := by
   rcases Nat.lt_or_ge i g.edges.length with h | h
   ·
    rw [List.drop_eq_getElem_cons h] at hd; cases hd
   ·
    exact h
  obtain rfl : i = g.edges.length := by omega
  exact ⟨rfl, fun _ => h⟩
 | x :: r, i, c, hd, hi0, h => by
  have hi : i < g.edges.length := by
   rcases Nat.lt_or_ge i g.edges.length with h | h
   ·
    exact h
   ·
    rw [List.drop_eq_nil_of_le h] at hd; cases hd
  rw [List.drop_eq_getElem_cons hi] at hd
  injection hd with h1 h2
  have e : edgeE c x = edgeR g i x := by
   unfold edgeE edgeR
   rw [h.outs.take, h.ins.take]
  rw [edgesE, edgesR, e]
  split
  ·
   rename_i hne
   exact ⟨rfl, fun h0 => absurd h0 hne⟩
  ·
   rename_i hne
   have h0 : edgeE c x = 0 := by rw [e]; omega
   have t1 : takeE c.outs x.src x.sport = 0 := by
    unfold edgeE at h0
    split at h0
    ·
     rename_i h3; exact absurd h0 h3
    ·
     rename_i h3; omega
   have t2 : takeE c.ins x.dst x.dport = 0 := by
    unfold edgeE at h0
    rw [if_neg (by omega)] at h0
    split at h0
    ·
     rename_i h3; exact absurd h0 h3
    ·
     rename_i h3; omega
   exact edges_same g r (i + 1) (edgeC c x) h2 hi ⟨h.seen, (h.ins.set t2).congr (fun a p => by unfold inT; rw [take_any _ _ hi, h1]; simp), (h.outs.set t1).congr (fun a p => by unfold outT; rw [take_any _ _ hi, h1]; simp)⟩
theorem ins_same (g : GGraph) : ∀ (l : List GPort) (i : Nat) (seen : List ByteArray) (side : List (List Bool)), g.ins.drop i = l → i ≤ g.ins.length → seen = g.actors.map GActor.name ++ (g.ins.take i).map GPort.name → SideIs side g (ratesI g) (inT g g.edges.length i) →
  portsE seen side l = insR g i l ∧ (portsE seen side l = 0 → SideIs (portsS side l) g (ratesI g) (inT g g.edges.length g.ins.length))
 | [], i, seen, side, hd, hi, hs, h => by
  have : g.ins.length ≤ i := by
   rcases Nat.lt_or_ge i g.ins.length with h | h
   ·
    rw [List.drop_eq_getElem_cons h] at hd; cases hd
   ·
    exact h
  obtain rfl : i = g.ins.length := by omega
  exact ⟨rfl, fun _ => h⟩
 | x :: r, i, seen, side, hd, hi0, hs, h => by
  have hi : i < g.ins.length := by
   rcases Nat.lt_or_ge i g.ins.length with h | h
   ·
    exact h
   ·
    rw [List.drop_eq_nil_of_le h] at hd; cases hd
  rw [List.drop_eq_getElem_cons hi] at hd
  injection hd with h1 h2
  have e : portE seen side x = inR g i x := by
   unfold portE inR
   rw [h.take, nameE_is, hs, List.any_append, List.any_map, List.any_map]
   unfold namedR
   simp only [List.take_zero, List.any_nil, Bool.or_false, List.take_length]
   rfl
  rw [portsE, insR, e]
  split
  ·
   rename_i hne
   exact ⟨rfl, fun h0 => absurd h0 hne⟩
  ·
   rename_i hne
   have h0 : portE seen side x = 0 := by rw [e]; omega
   have t1 : takeE side x.actor x.port = 0 := by
    unfold portE at h0
    split at h0
    ·
     rename_i h3; exact absurd h0 h3
    ·
     exact h0
   exact ins_same g r (i + 1) (seen ++ [x.name]) (takeS side x.actor x.port) h2 hi (by rw [hs, List.take_succ_eq_append_getElem hi, List.map_append, ← List.append_assoc, h1]; rfl) ((h.set t1).congr (fun a p => by unfold inT; rw [take_any _ _ hi, h1]; simp [Bool.or_assoc]))
theorem outs_same (g : GGraph) : ∀ (l : List GPort) (i : Nat) (seen : List ByteArray) (side : List (List Bool)), g.outs.drop i = l → i ≤ g.outs.length → seen = g.actors.map GActor.name ++ g.ins.map GPort.name ++ (g.outs.take i).map GPort.name → SideIs side g (ratesO g) (outT g g.edges.length i) →
  portsE seen side l = outsR g i l ∧ (portsE seen side l = 0 → SideIs (portsS side l) g (ratesO g) (outT g g.edges.length g.outs.length))
 | [], i, seen, side, hd, hi, hs, h => by
  have : g.outs.length ≤ i := by
   rcases Nat.lt_or_ge i g.outs.length with h | h
   ·
    rw [List.drop_eq_getElem_cons h] at hd; cases hd
   ·
    exact h
  obtain rfl : i = g.outs.length := by omega
  exact ⟨rfl, fun _ => h⟩
 | x :: r, i, seen, side, hd, hi0, hs, h => by
  have hi : i < g.outs.length := by
   rcases Nat.lt_or_ge i g.outs.length with h | h
   ·
    exact h
   ·
    rw [List.drop_eq_nil_of_le h] at hd; cases hd
  rw [List.drop_eq_getElem_cons hi] at hd
  injection hd with h1 h2
  have e : portE seen side x = outR g i x := by
   unfold portE outR
   rw [h.take, nameE_is, hs, List.any_append, List.any_append, List.any_map, List.any_map, List.any_map]
   unfold namedR
   simp only [List.take_length]
   rfl
  rw [portsE, outsR, e]
  split
  ·
   rename_i hne
   exact ⟨rfl, fun h0 => absurd h0 hne⟩
  ·
   rename_i hne
   have h0 : portE seen side x = 0 := by rw [e]; omega
   have t1 : takeE side x.actor x.port = 0 := by
    unfold portE at h0
    split at h0
    ·
     rename_i h3; exact absurd h0 h3
    ·
     exact h0
   exact outs_same g r (i + 1) (seen ++ [x.name]) (takeS side x.actor x.port) h2 hi (by rw [hs, List.take_succ_eq_append_getElem hi, List.map_append, ← List.append_assoc, h1]; rfl) ((h.set t1).congr (fun a p => by unfold outT; rw [take_any _ _ hi, h1]; simp [Bool.or_assoc]))
theorem side_all {side : List (List Bool)} {g : GGraph} {L : Nat → List Int} {f : Int → Int → Bool} (h : SideIs side g L f) : (side.all fun s => s.all id) = (List.range g.actors.length).all fun i => (List.range (L i).length).all fun k => f i k := by
 rw [Bool.eq_iff_iff, List.all_eq_true, List.all_eq_true]
 constructor
 ·
  intro hs i hi
  have hi := List.mem_range.1 hi
  rw [List.all_eq_true]
  intro k hk
  have hk := List.mem_range.1 hk
  have hm := h.mark i k hi hk
  have hil : i < side.length := by rw [h.len]; exact hi
  have hrow := h.row i hi
  rw [List.getElem?_eq_getElem hil] at hm hrow
  simp only [Option.getD_some] at hm hrow
  have hk2 : k < side[i].length := by rw [hrow]; exact hk
  rw [List.getElem?_eq_getElem hk2] at hm
  have h1 := hs _ (List.getElem_mem hil)
  rw [List.all_eq_true] at h1
  have h2 := h1 _ (List.getElem_mem hk2)
  rw [← hm]
  exact h2
 ·
  intro hs s hsm
  obtain ⟨i, hi, rfl⟩ := List.mem_iff_getElem.1 hsm
  have hi2 : i < g.actors.length := by rw [← h.len]; exact hi
  rw [List.all_eq_true]
  intro b hb
  obtain ⟨k, hk, rfl⟩ := List.mem_iff_getElem.1 hb
  have hrow := h.row i hi2
  rw [List.getElem?_eq_getElem hi] at hrow
  simp only [Option.getD_some] at hrow
  have hm := h.mark i k hi2 (by rw [← hrow]; exact hk)
  rw [List.getElem?_eq_getElem hi] at hm
  simp only [Option.getD_some] at hm
  rw [List.getElem?_eq_getElem hk] at hm
  have h1 := hs i (List.mem_range.2 hi2)
  rw [List.all_eq_true] at h1
  have h2 := h1 k (List.mem_range.2 (by rw [← hrow]; exact hk))
  show side[i][k] = true
  rw [← h2, ← hm]
  rfl
theorem open_same {g : GGraph} {a b : List (List Bool)} (h : SideIs a g (ratesI g) (inT g g.edges.length g.ins.length)) (k : SideIs b g (ratesO g) (outT g g.edges.length g.outs.length)) : openE a b = openR g := by
 unfold openE openR
 rw [side_all h, side_all k]
 have e : ((List.range g.actors.length).all (fun i => (List.range (ratesI g i).length).all fun k => inT g g.edges.length g.ins.length i k) && (List.range g.actors.length).all fun i => (List.range (ratesO g i).length).all fun k => outT g g.edges.length g.outs.length i k) = !(List.range g.actors.length).any (openR1 g) := by
  rw [Bool.eq_iff_iff]
  simp only [Bool.and_eq_true, List.all_eq_true, Bool.not_eq_true', List.any_eq_false, openR1, Bool.or_eq_true, List.any_eq_true, Bool.not_eq_true', not_or, not_exists, not_and, Bool.not_eq_false]
  constructor
  ·
   rintro ⟨h1, h2⟩ i hi
   exact ⟨h1 i hi, h2 i hi⟩
  ·
   intro h
   exact ⟨fun i hi => (h i hi).1, fun i hi => (h i hi).2⟩
 rw [e]
 cases (List.range g.actors.length).any (openR1 g) <;> rfl
theorem ref_graph (g : GGraph) : refE g = checkE g := by
 unfold refE checkE
 by_cases h0 : headE g ≠ 0
 ·
  rw [if_pos h0, if_pos h0]
 rw [if_neg h0, if_neg h0]
 rw [← actors_same g g.actors 0 chk0 rfl rfl]
 by_cases h1 : actorsE chk0 g.actors ≠ 0
 ·
  rw [if_pos h1, if_pos h1]
 rw [if_neg h1, if_neg h1]
 obtain ⟨e1, e2⟩ := edges_same g g.edges 0 (chk1 g) rfl (Nat.zero_le _) (known_start g)
 rw [← e1]
 by_cases h2 : edgesE (chk1 g) g.edges ≠ 0
 ·
  rw [if_pos h2, if_pos h2]
 rw [if_neg h2, if_neg h2]
 have K : Known g (chk2 g) 0 0 g.edges.length := e2 (by omega)
 obtain ⟨i1, i2⟩ := ins_same g g.ins 0 (chk2 g).seen (chk2 g).ins rfl (Nat.zero_le _) (by rw [K.seen]; simp) K.ins
 rw [← i1]
 by_cases h3 : portsE (chk2 g).seen (chk2 g).ins g.ins ≠ 0
 ·
  rw [if_pos h3, if_pos h3]
 rw [if_neg h3, if_neg h3]
 obtain ⟨o1, o2⟩ := outs_same g g.outs 0 (portsN (chk2 g).seen g.ins) (chk2 g).outs rfl (Nat.zero_le _) (by unfold portsN; rw [K.seen]; simp) K.outs
 rw [← o1]
 by_cases h4 : portsE (portsN (chk2 g).seen g.ins) (chk2 g).outs g.outs ≠ 0
 ·
  rw [if_pos h4, if_pos h4]
 rw [if_neg h4, if_neg h4]
 exact (open_same (i2 (by omega)) (o2 (by omega))).symm
end Go.Proofs.YtaholpfikcdhbaaGreat

/- Runs of a rig, plainly: scripts, rounds; what two runs have in common. No function in sight. -/
namespace Go.Proofs.YtaholpfikcdhbaaGreat
structure RunP where
 rig : RigP
 failed : Option Nat
def stepR (g : GGraph) (caps : List Int) (r : RunP) (t : Nat) : RunP × Bool :=
 match r.failed with
 | some _ => (r, false)
 | none => match stepP g caps r.rig t with
  | .waits => (r, false)
  | .fails => (⟨r.rig, some t⟩, true)
  | .goes s => (⟨s, none⟩, true)
def isReady (g : GGraph) (caps : List Int) (s : RigP) (t : Nat) : Bool := match stepP g caps s t with | .waits => false | _ => true
def readyL (g : GGraph) (caps : List Int) (r : RunP) : List Nat := match r.failed with | some _ => [] | none => (List.range g.actors.length).filter (isReady g caps r.rig)
def pickP (p : Int) (n : Nat) : Nat := (Int.emod p n).toNat
def playP (g : GGraph) (caps : List Int) : List Int → RunP → RunP × Nat
 | [], r => (r, 0)
 | p :: l, r => if readyL g caps r = [] then (r, 0) else ((playP g caps l (stepR g caps r ((readyL g caps r)[pickP p (readyL g caps r).length]?.getD 0)).1).1, (playP g caps l (stepR g caps r ((readyL g caps r)[pickP p (readyL g caps r).length]?.getD 0)).1).2 + 1)
def roundP (g : GGraph) (caps : List Int) : List Nat → RunP → RunP × Nat
 | [], r => (r, 0)
 | t :: l, r => ((roundP g caps l (stepR g caps r t).1).1, (roundP g caps l (stepR g caps r t).1).2 + (if (stepR g caps r t).2 then 1 else 0))
def roundsP (g : GGraph) (caps : List Int) : Nat → RunP → RunP × Nat
 | 0, r => (r, 0)
 | n + 1, r => if (roundP g caps (List.range g.actors.length) r).2 = 0 then ((roundP g caps (List.range g.actors.length) r).1, 0)
  else ((roundsP g caps n (roundP g caps (List.range g.actors.length) r).1).1, (roundsP g caps n (roundP g caps (List.range g.actors.length) r).1).2 + (roundP g caps (List.range g.actors.length) r).2)
def Reach (g : GGraph) (caps : List Int) (s : RigP) (r : RunP) : Prop := (∃ l, KRuns (rigK g caps) s l r.rig) ∧ ∀ a, r.failed = some a → stepP g caps r.rig a = .fails
theorem Reach.start (g : GGraph) (caps : List Int) (s : RigP) : Reach g caps s ⟨s, none⟩ := ⟨⟨[], .nil _⟩, fun a h => by cases h⟩
theorem Reach.step {g : GGraph} {caps : List Int} {s : RigP} {r : RunP} (h : Reach g caps s r) (t : Nat) : Reach g caps s (stepR g caps r t).1 := by
 unfold stepR
 obtain ⟨⟨l, hl⟩, hf⟩ := h
 cases hr : r.failed with
 | some a => exact ⟨⟨l, hl⟩, by rw [← hr]; simpa [hr] using hf⟩
 | none =>
  simp only
  cases hs : stepP g caps r.rig t with
  | waits => exact ⟨⟨l, hl⟩, by rw [hr]; exact fun a h => by cases h⟩
  | fails => exact ⟨⟨l, hl⟩, fun a h => by cases h; exact hs⟩
  | goes s1 => exact ⟨⟨l ++ [t], hl.append (.one hs)⟩, fun a h => by cases h⟩
theorem Reach.play {g : GGraph} {caps : List Int} {s : RigP} : ∀ (l : List Int) {r : RunP}, Reach g caps s r → Reach g caps s (playP g caps l r).1
 | [], _, h => h
 | p :: l, r, h => by
  rw [playP]
  split
  ·
   exact h
  ·
   exact Reach.play l (h.step _)
theorem Reach.round {g : GGraph} {caps : List Int} {s : RigP} : ∀ (l : List Nat) {r : RunP}, Reach g caps s r → Reach g caps s (roundP g caps l r).1
 | [], _, h => h
 | t :: l, r, h => by
  rw [roundP]
  exact Reach.round l (h.step t)
theorem Reach.rounds {g : GGraph} {caps : List Int} {s : RigP} : ∀ (n : Nat) {r : RunP}, Reach g caps s r → Reach g caps s (roundsP g caps n r).1
 | 0, _, h => h
 | n + 1, r, h => by
  rw [roundsP]
  split
  ·
   exact h.round _
  ·
   exact Reach.rounds n (h.round _)
def outS (g : GGraph) (s : RigP) (k : Nat) : List Int := s.strs (g.edges.length + g.ins.length + k)
theorem quiet_of {g : GGraph} {caps : List Int} {r : RunP} (hf : r.failed = none) (h : readyL g caps r = []) : KQuiet (rigK g caps) r.rig := by
 intro a
 show stepP g caps r.rig a = .waits
 by_cases ha : g.actors.length ≤ a
 ·
  unfold stepP
  rw [if_pos ha]
 ·
  unfold readyL at h
  rw [hf] at h
  simp only at h
  have := (List.filter_eq_nil_iff.1 h) a (List.mem_range.2 (by omega))
  unfold isReady at this
  cases hs : stepP g caps r.rig a with
  | waits => rfl
  | fails => rw [hs] at this; exact absurd rfl this
  | goes s => rw [hs] at this; exact absurd rfl this
end Go.Proofs.YtaholpfikcdhbaaGreat

/- More room, more tokens; rounds one by one, plainly. No function in sight. -/
namespace Go.Proofs.YtaholpfikcdhbaaGreat
def feedS (g : GGraph) (X : List (List Int)) (s : RigP) : RigP := ⟨s.tasks, fun d => if g.edges.length ≤ d ∧ d < g.edges.length + g.ins.length then s.strs d ++ (X[d - g.edges.length]?.getD []) else s.strs d⟩
theorem to_not_in {g : GGraph} {t p d : Nat} (h1 : g.edges.length ≤ d) (h2 : d < g.edges.length + g.ins.length) : toP g t p ≠ d := by
 unfold toP
 cases e1 : g.edges.findIdx? (fun e => decide (e.src = (t : Int)) && decide (e.sport = (p : Int))) with
 | some i =>
  obtain ⟨hi, _⟩ := List.findIdx?_eq_some_iff_getElem.1 e1
  simp only
  omega
 | none =>
  cases e2 : g.outs.findIdx? (fun e => decide (e.actor = (t : Int)) && decide (e.port = (p : Int))) with
  | some i => simp only; omega
  | none => simp only; omega
theorem feed_upd_out {g : GGraph} {X : List (List Int)} {s : RigP} {x : Nat → TaskP} {d : Nat} {l : List Int} (h : ¬ (g.edges.length ≤ d ∧ d < g.edges.length + g.ins.length)) : feedS g X ⟨x, upd s.strs d l⟩ = ⟨x, upd (feedS g X s).strs d l⟩ := by
 unfold feedS
 congr 1
 funext k
 unfold upd
 by_cases hk : k = d
 ·
  subst hk
  simp only [if_neg h, if_pos]
 ·
  simp only [if_neg hk]
theorem feed_upd_in {g : GGraph} {X : List (List Int)} {s : RigP} {x : Nat → TaskP} {d : Nat} {l : List Int} (h : g.edges.length ≤ d ∧ d < g.edges.length + g.ins.length) : feedS g X ⟨x, upd s.strs d l⟩ = ⟨x, upd (feedS g X s).strs d (l ++ (X[d - g.edges.length]?.getD []))⟩ := by
 unfold feedS
 congr 1
 funext k
 unfold upd
 by_cases hk : k = d
 ·
  subst hk
  simp only [if_pos h, if_pos]
 ·
  simp only [if_neg hk]
theorem feed_str_out {g : GGraph} {X : List (List Int)} {s : RigP} {d : Nat} (h : ¬ (g.edges.length ≤ d ∧ d < g.edges.length + g.ins.length)) : (feedS g X s).strs d = s.strs d := by
 unfold feedS
 simp only [if_neg h]
theorem feed_str_in {g : GGraph} {X : List (List Int)} {s : RigP} {d : Nat} (h : g.edges.length ≤ d ∧ d < g.edges.length + g.ins.length) : (feedS g X s).strs d = s.strs d ++ (X[d - g.edges.length]?.getD []) := by
 unfold feedS
 simp only [if_pos h]
structure Wider (g : GGraph) (caps caps' : List Int) : Prop where
 len : caps.length = g.edges.length
 len' : caps'.length = g.edges.length
 le : ∀ d (h : d < caps.length) (h' : d < caps'.length), caps[d] ≤ caps'[d]
theorem Wider.refl {g : GGraph} {caps : List Int} (h : caps.length = g.edges.length) : Wider g caps caps := ⟨h, h, fun _ _ _ => Int.le_refl _⟩
theorem full_wide {g : GGraph} {caps caps' : List Int} (hw : Wider g caps caps') {X : List (List Int)} {s : RigP} {t p : Nat} (h : fullP caps s (toP g t p) = false) : fullP caps' (feedS g X s) (toP g t p) = false := by
 have hn : ¬ (g.edges.length ≤ toP g t p ∧ toP g t p < g.edges.length + g.ins.length) := fun hk => to_not_in (t := t) (p := p) hk.1 hk.2 rfl
 unfold fullP at h ⊢
 rw [feed_str_out hn]
 cases hc : caps'[toP g t p]? with
 | none => rfl
 | some c' =>
  obtain ⟨h1, h2⟩ := List.getElem?_eq_some_iff.1 hc
  have h3 : toP g t p < caps.length := by rw [hw.len]; rw [hw.len'] at h1; exact h1
  rw [List.getElem?_eq_getElem h3] at h
  have := hw.le _ h3 h1
  simp at h ⊢
  omega
theorem step_wide {g : GGraph} {caps caps' : List Int} (hw : Wider g caps caps') (X : List (List Int)) {s s1 : RigP} {t : Nat} (h : stepP g caps s t = .goes s1) : stepP g caps' (feedS g X s) t = .goes (feedS g X s1) := by
 obtain ⟨ht, k⟩ := step_kind.1 h
 refine step_kind.2 ⟨ht, ?_⟩
 cases k with
 | give x hg hf hx =>
  have hn : ¬ (g.edges.length ≤ toP g t (s.tasks t).port ∧ toP g t (s.tasks t).port < g.edges.length + g.ins.length) := fun hk => to_not_in (t := t) (p := (s.tasks t).port) hk.1 hk.2 rfl
  rw [feed_upd_out hn]
  have := Kind.give (g := g) (caps := caps') (s := feedS g X s) (t := t) x hg (full_wide hw hf) hx
  rw [show (feedS g X s).tasks t = s.tasks t from rfl, feed_str_out hn] at this
  exact this
 | take x v r hg hp hv hx =>
  by_cases hn : g.edges.length ≤ fromP g t (s.tasks t).port ∧ fromP g t (s.tasks t).port < g.edges.length + g.ins.length
  ·
   rw [feed_upd_in hn]
   exact Kind.take (g := g) (caps := caps') (s := feedS g X s) (t := t) x v _ hg hp (by rw [show ((feedS g X s).tasks t) = s.tasks t from rfl, feed_str_in hn, hv]; rfl) hx
  ·
   rw [feed_upd_out hn]
   exact Kind.take (g := g) (caps := caps') (s := feedS g X s) (t := t) x v r hg hp (by rw [show ((feedS g X s).tasks t) = s.tasks t from rfl, feed_str_out hn, hv]) hx
 | fire x hg hp he hx =>
  exact Kind.fire (g := g) (caps := caps') (s := feedS g X s) (t := t) x hg hp he hx
theorem fails_wide {g : GGraph} {caps caps' : List Int} (X : List (List Int)) {s : RigP} {t : Nat} (h : stepP g caps s t = .fails) : stepP g caps' (feedS g X s) t = .fails := by
 rw [step_fails] at h ⊢
 exact h
theorem run_wide {g : GGraph} {caps caps' : List Int} (hw : Wider g caps caps') (X : List (List Int)) {s s1 : RigP} {l : List Nat} (h : KRuns (rigK g caps) s l s1) : KRuns (rigK g caps') (feedS g X s) l (feedS g X s1) := by
 induction h with
 | nil => exact .nil _
 | cons h _ ih => exact .cons (step_wide hw X h) ih
theorem Reach.wide {g : GGraph} {caps caps' : List Int} (hw : Wider g caps caps') (X : List (List Int)) {s : RigP} {r : RunP} (h : Reach g caps s r) : Reach g caps' (feedS g X s) ⟨feedS g X r.rig, r.failed⟩ := by
 obtain ⟨⟨l, hl⟩, hf⟩ := h
 exact ⟨⟨l, run_wide hw X hl⟩, fun a ha => fails_wide X (hf a ha)⟩
end Go.Proofs.YtaholpfikcdhbaaGreat

/- What holds of a task whatever was done, plainly. No function in sight. -/
namespace Go.Proofs.YtaholpfikcdhbaaGreat
theorem rates_pos {t : Int} {ps : List Int} (h : goodP t ps) : (∀ x ∈ insP t ps, 1 ≤ x ∧ x ≤ 64) ∧ ∀ x ∈ outsP t ps, 1 ≤ x ∧ x ≤ 64 := by
 have hm : ∀ (a b : Int), 1 ≤ a → 1 ≤ b → 1 ≤ a * b := fun a b ha hb => by
  have := Int.mul_le_mul ha hb (by omega) (by omega)
  omega
 have hrep : ∀ (n : Nat) (a x : Int), x ∈ List.replicate n a → x = a := fun n a x hx => List.eq_of_mem_replicate hx
 rcases h with ⟨rfl, h⟩ | ⟨rfl, h⟩ | ⟨rfl, h⟩ | ⟨rfl, h⟩ | ⟨rfl, h⟩ | ⟨rfl, h⟩ | ⟨rfl, h⟩ | ⟨rfl, h⟩ | ⟨rfl, h⟩ | ⟨rfl, h⟩ | ⟨rfl, h⟩
 ·
  exact ⟨fun x hx => by simp [insP] at hx; omega, fun x hx => by simp [outsP] at hx; omega⟩
 ·
  obtain ⟨_, h1, h2⟩ := h
  exact ⟨fun x hx => by simp [insP] at hx; omega, fun x hx => by simp [outsP] at hx; omega⟩
 ·
  obtain ⟨_, h1, h2⟩ := h
  exact ⟨fun x hx => by simp [insP] at hx; omega, fun x hx => by simp [outsP] at hx; omega⟩
 ·
  obtain ⟨_, ⟨h1, h2⟩, ⟨h3, h4⟩, h5⟩ := h
  have := hm _ _ h1 h3
  exact ⟨fun x hx => by simp [insP] at hx; omega, fun x hx => by simp [outsP] at hx; omega⟩
 ·
  obtain ⟨_, ⟨h1, h2⟩, ⟨h3, h4⟩, h5⟩ := h
  have := hm _ _ h1 h3
  exact ⟨fun x hx => by simp [insP] at hx; omega, fun x hx => by simp [outsP] at hx; omega⟩
 ·
  exact ⟨fun x hx => by simp [insP] at hx; omega, fun x hx => by simp [outsP] at hx; omega⟩
 ·
  exact ⟨fun x hx => by simp [insP] at hx; omega, fun x hx => by simp [outsP] at hx; omega⟩
 ·
  exact ⟨fun x hx => by simp [insP] at hx; omega, fun x hx => by simp [outsP] at hx; omega⟩
 ·
  exact ⟨fun x hx => by simp [insP] at hx; omega, fun x hx => by simp [outsP] at hx; omega⟩
 ·
  exact ⟨fun x hx => by simp [insP] at hx, fun x hx => by simp [outsP] at hx; omega⟩
 ·
  obtain ⟨_, h1, h2⟩ := h
  exact ⟨fun x hx => by simp [insP] at hx; omega, fun x hx => by simp [outsP] at hx⟩
def rI (g : GGraph) (t q : Nat) : Int := (ratesI g t)[q]?.getD 0
def rO (g : GGraph) (t q : Nat) : Int := (ratesO g t)[q]?.getD 0
structure ActsOk (g : GGraph) : Prop where
 good : ∀ a ∈ g.actors, goodP a.tag a.params
 fits : ∀ a ∈ g.actors, ∀ x ∈ a.params, Fits x
theorem rI_pos {g : GGraph} (h : ActsOk g) {t q : Nat} (hq : q < (ratesI g t).length) : 1 ≤ rI g t q ∧ rI g t q ≤ 64 := by
 have key : ∀ x ∈ ratesI g t, 1 ≤ x ∧ x ≤ 64 := by
  unfold ratesI
  cases ha : g.actors[t]? with
  | none => intro x hx; cases hx
  | some a => exact (rates_pos (h.good a (List.mem_of_getElem? ha))).1
 unfold rI
 rw [List.getElem?_eq_getElem hq]
 exact key _ (List.getElem_mem hq)
theorem rO_pos {g : GGraph} (h : ActsOk g) {t q : Nat} (hq : q < (ratesO g t).length) : 1 ≤ rO g t q ∧ rO g t q ≤ 64 := by
 have key : ∀ x ∈ ratesO g t, 1 ≤ x ∧ x ≤ 64 := by
  unfold ratesO
  cases ha : g.actors[t]? with
  | none => intro x hx; cases hx
  | some a => exact (rates_pos (h.good a (List.mem_of_getElem? ha))).2
 unfold rO
 rw [List.getElem?_eq_getElem hq]
 exact key _ (List.getElem_mem hq)
def lenAt (l : List (List Int)) (q : Nat) : Int := ((l[q]?.getD []).length : Int)
structure TOk (g : GGraph) (t s : Nat) (x : TaskP) : Prop where
 hlen : x.hand.length = (ratesI g t).length
 hfit : ∀ l ∈ x.hand, ∀ z ∈ l, Fits z
 gfit : ∀ l ∈ x.gift, ∀ z ∈ l, Fits z
 kfit : ∀ z ∈ x.keep, Fits z
 num : 0 ≤ x.n ∧ x.n ≤ s
 whole : x.whole ≤ s
 take : x.gives = false → x.gift = [] ∧ x.port ≤ (ratesI g t).length ∧ (∀ q, q < x.port → lenAt x.hand q = rI g t q) ∧ (∀ q, x.port < q → lenAt x.hand q = 0) ∧ (x.port < (ratesI g t).length → lenAt x.hand x.port < rI g t x.port)
 give : x.gives = true → x.port < (ratesO g t).length ∧ x.gift.length = (ratesO g t).length ∧ (∀ q, q < (ratesI g t).length → lenAt x.hand q = rI g t q) ∧ (∀ p, p < x.port → lenAt x.gift p = 0) ∧ (∀ p, x.port < p → p < (ratesO g t).length → lenAt x.gift p = rO g t p) ∧ 1 ≤ lenAt x.gift x.port ∧ lenAt x.gift x.port ≤ rO g t x.port
theorem TOk.later {g : GGraph} {t s s' : Nat} {x : TaskP} (h : TOk g t s x) (hs : s ≤ s') : TOk g t s' x := { h with num := ⟨h.num.1, by have := h.num.2; omega⟩, whole := by have := h.whole; omega }
theorem lenAt_set {l : List (List Int)} {k q : Nat} {v : List Int} (hk : k < l.length) : lenAt (l.set k v) q = if q = k then (v.length : Int) else lenAt l q := by
 unfold lenAt
 by_cases h : q = k
 ·
  subst h
  rw [if_pos rfl, List.getElem?_set_self hk]
  rfl
 ·
  rw [if_neg h, List.getElem?_set_ne (Ne.symm h)]
theorem lenAt_out {l : List (List Int)} {q : Nat} (hq : l.length ≤ q) : lenAt l q = 0 := by
 unfold lenAt
 rw [List.getElem?_eq_none hq]
 rfl
theorem lenAt_rep {n q : Nat} : lenAt (List.replicate n []) q = 0 := by
 unfold lenAt
 rw [List.getElem?_replicate]
 split <;> rfl
theorem begin_ok {g : GGraph} {t s : Nat} {x : TaskP} (hg : ActsOk g) (hk : ∀ z ∈ x.keep, Fits z) (hn : 0 ≤ x.n ∧ x.n ≤ s) (hw : x.whole ≤ s) : TOk g t s (beginP (ratesI g t).length x) where
 hlen := by simp [beginP]
 hfit := fun l hl => by
  have : l = [] := List.eq_of_mem_replicate hl
  subst this
  exact fun z hz => by cases hz
 gfit := fun l hl => by cases hl
 kfit := hk
 num := hn
 whole := hw
 take := fun _ => ⟨rfl, Nat.zero_le _, fun q hq => by simp [beginP] at hq, fun q _ => lenAt_rep, fun hp => by
  have := rI_pos hg (t := t) (q := 0) hp
  show lenAt (List.replicate _ []) 0 < rI g t 0
  rw [lenAt_rep]
  omega⟩
 give := fun h => by cases h
theorem took_ok {g : GGraph} {t s : Nat} {x : TaskP} {v : Int} (hg : ActsOk g) (h : TOk g t s x) (hgv : x.gives = false) (hp : x.port < (ratesI g t).length) (hv : Fits v) : TOk g t s (tookP (rI g t x.port) x v) := by
 obtain ⟨t1, t2, t3, t4, t5⟩ := h.take hgv
 have t5 := t5 hp
 have hh : x.port < x.hand.length := by rw [h.hlen]; exact hp
 have hl : ∀ q, lenAt (tookP (rI g t x.port) x v).hand q = if q = x.port then lenAt x.hand x.port + 1 else lenAt x.hand q := fun q => by
  show lenAt (x.hand.set x.port ((x.hand[x.port]?.getD []) ++ [v])) q = _
  rw [lenAt_set hh]
  split
  ·
   unfold lenAt; rw [List.length_append]; simp
  ·
   rfl
 have hpn : (tookP (rI g t x.port) x v).port = if lenAt x.hand x.port + 1 = rI g t x.port then x.port + 1 else x.port := rfl
 refine ⟨by rw [← h.hlen]; exact List.length_set, fun l hm => ?_, h.gfit, h.kfit, h.num, h.whole, fun _ => ⟨t1, ?_, fun q hq => ?_, fun q hq => ?_, fun hq => ?_⟩, fun hc => ?_⟩
 ·
  rcases List.mem_or_eq_of_mem_set hm with hm | rfl
  ·
   exact h.hfit l hm
  ·
   intro z hz
   rcases List.mem_append.1 hz with hz | hz
   ·
    rw [List.getElem?_eq_getElem hh] at hz
    exact h.hfit _ (List.getElem_mem hh) z hz
   ·
    obtain rfl : z = v := by simpa using hz
    exact hv
 ·
  rw [hpn]; split <;> omega
 ·
  rw [hl]
  rw [hpn] at hq
  split at hq
  ·
   rename_i e
   split
   ·
    rename_i e2; rw [e2]; exact e
   ·
    exact t3 q (by omega)
  ·
   rw [if_neg (by omega)]; exact t3 q hq
 ·
  rw [hl]
  rw [hpn] at hq
  have : q ≠ x.port := by split at hq <;> omega
  rw [if_neg this]
  exact t4 q (by split at hq <;> omega)
 ·
  rw [hl]
  rw [hpn] at hq ⊢
  split
  ·
   rename_i e
   rw [if_neg (by omega), t4 _ (by omega)]
   rw [if_pos e] at hq
   have := rI_pos hg hq
   omega
  ·
   rename_i e
   rw [if_pos rfl]
   omega
 ·
  have : x.gives = true := hc
  rw [hgv] at this
  cases this
theorem finish_ok {g : GGraph} {t s : Nat} {x : TaskP} (hg : ActsOk g) (hlen : x.hand.length = (ratesI g t).length) (hfit : ∀ l ∈ x.hand, ∀ z ∈ l, Fits z) (gfit : ∀ l ∈ x.gift, ∀ z ∈ l, Fits z) (kfit : ∀ z ∈ x.keep, Fits z) (num : 0 ≤ x.n ∧ x.n ≤ s) (whole : x.whole + 1 ≤ s) (hgv : x.gives = true) (hpo : x.port ≤ (ratesO g t).length)
  (hgl : x.gift.length = (ratesO g t).length) (hh : ∀ q, q < (ratesI g t).length → lenAt x.hand q = rI g t q) (h1 : ∀ p, p < x.port → lenAt x.gift p = 0) (h2 : ∀ p, x.port < p → p < (ratesO g t).length → lenAt x.gift p = rO g t p) (h3 : x.port < (ratesO g t).length → 1 ≤ lenAt x.gift x.port ∧ lenAt x.gift x.port ≤ rO g t x.port) :
  TOk g t s (finishP (ratesI g t).length (ratesO g t).length x) := by
 unfold finishP
 split
 ·
  exact begin_ok hg kfit num whole
 ·
  rename_i hne
  have hlt : x.port < (ratesO g t).length := by omega
  exact ⟨hlen, hfit, gfit, kfit, num, by omega, (fun h => by rw [hgv] at h; exact absurd h (by decide)), fun _ => ⟨hlt, hgl, hh, h1, h2, h3 hlt⟩⟩
theorem gave_ok {g : GGraph} {t s : Nat} {x : TaskP} (hg : ActsOk g) (h : TOk g t s x) (hgv : x.gives = true) : TOk g t (s + 1) (gaveP (ratesI g t).length (ratesO g t).length x) := by
 obtain ⟨g1, g2, g3, g4, g5, g6, g7⟩ := h.give hgv
 have hgl : x.port < x.gift.length := by rw [g2]; exact g1
 obtain ⟨r, hr⟩ : ∃ r, (x.gift[x.port]?.getD []) = r := ⟨_, rfl⟩
 have hrl : lenAt x.gift x.port = (r.length : Int) := by rw [← hr]; rfl
 have hl : ∀ q, lenAt (x.gift.set x.port r.tail) q = if q = x.port then (r.tail.length : Int) else lenAt x.gift q := fun q => lenAt_set hgl
 unfold gaveP
 rw [hr]
 refine finish_ok hg h.hlen h.hfit (fun l hm => ?_) h.kfit ⟨h.num.1, by have := h.num.2; show x.n ≤ _; omega⟩ (by have := h.whole; show x.whole + 1 ≤ _; omega) hgv (by show (if r.tail = [] then x.port + 1 else x.port) ≤ _; split <;> omega) (by show (x.gift.set x.port r.tail).length = _; rw [List.length_set, g2]) g3 (fun p hp => ?_) (fun p hp hp2 => ?_) (fun hp => ?_)
 ·
  rcases List.mem_or_eq_of_mem_set hm with hm | rfl
  ·
   exact h.gfit l hm
  ·
   intro z hz
   have hz := List.mem_of_mem_tail hz
   rw [← hr, List.getElem?_eq_getElem hgl] at hz
   exact h.gfit _ (List.getElem_mem hgl) z hz
 ·
  show lenAt (x.gift.set x.port r.tail) p = 0
  rw [hl]
  have hp : p < (if r.tail = [] then x.port + 1 else x.port) := hp
  split at hp
  ·
   rename_i e
   split
   ·
    rw [e]; rfl
   ·
    exact g4 p (by omega)
  ·
   rw [if_neg (by omega)]; exact g4 p hp
 ·
  show lenAt (x.gift.set x.port r.tail) p = _
  rw [hl]
  have hp : (if r.tail = [] then x.port + 1 else x.port) < p := hp
  rw [if_neg (by split at hp <;> omega)]
  exact g5 p (by split at hp <;> omega) hp2
 ·
  show 1 ≤ lenAt (x.gift.set x.port r.tail) (if r.tail = [] then x.port + 1 else x.port) ∧ lenAt (x.gift.set x.port r.tail) (if r.tail = [] then x.port + 1 else x.port) ≤ rO g t (if r.tail = [] then x.port + 1 else x.port)
  have hp : (if r.tail = [] then x.port + 1 else x.port) < (ratesO g t).length := hp
  rw [hl]
  split
  ·
   rename_i e
   rw [if_pos e] at hp
   rw [if_neg (by omega), g5 _ (by omega) hp]
   have := rO_pos hg hp
   omega
  ·
   rename_i e
   rw [if_pos rfl]
   have e1 : r.tail.length = r.length - 1 := List.length_tail
   have e2 : r.tail.length ≠ 0 := fun h => e (List.eq_nil_of_length_eq_zero h)
   omega
theorem fired_ok {g : GGraph} {t s : Nat} {x : TaskP} (hg : ActsOk g) (ht : t < g.actors.length) (h : TOk g t s x) (hgv : x.gives = false) (hp : ¬ x.port < (ratesI g t).length) (he : (shotP g t x).err = 0) : TOk g t (s + 1) (firedP (ratesI g t).length (ratesO g t).length x (shotP g t x)) := by
 obtain ⟨t1, t2, t3, t4, t5⟩ := h.take hgv
 have hpe : x.port = (ratesI g t).length := by omega
 have ha : g.actors[t]? = some g.actors[t] := List.getElem?_eq_getElem ht
 have hgood := hg.good _ (List.getElem_mem ht)
 have hpf := hg.fits _ (List.getElem_mem ht)
 have eI : ratesI g t = insP g.actors[t].tag g.actors[t].params := by unfold ratesI; rw [ha]
 have eO : ratesO g t = outsP g.actors[t].tag g.actors[t].params := by unfold ratesO; rw [ha]
 have eS : shotP g t x = shot g.actors[t].tag g.actors[t].params x.keep x.n x.hand := by unfold shotP; rw [ha]
 have hsh : ∃ outs keep', reckP g.actors[t].tag g.actors[t].params x.keep x.hand = some (outs, keep') ∧ shotP g t x = ⟨0, outs, keep', x.n + 1⟩ ∧ x.hand.map (fun l => (l.length : Int)) = insP g.actors[t].tag g.actors[t].params := by
  rw [eS] at he ⊢
  unfold shot at he ⊢
  split at he
  ·
   rename_i hfit
   rw [if_pos hfit]
   split at he
   ·
    rename_i outs keep' hr
    exact ⟨outs, keep', hr, rfl, hfit⟩
   ·
    cases he
  ·
   cases he
 obtain ⟨outs, keep', hr, hs, hfit⟩ := hsh
 have hlens := reck_lens hgood hfit hr
 have hfits := reck_fits hpf h.kfit h.hfit hr
 have holen : outs.length = (ratesO g t).length := by have := congrArg List.length hlens; rw [List.length_map] at this; rw [eO]; exact this
 have hol : ∀ p, p < (ratesO g t).length → lenAt outs p = rO g t p := fun p hp => by
  have h1 := congrArg (fun l : List Int => l[p]?.getD 0) hlens
  unfold lenAt rO
  rw [eO, ← h1, List.getElem?_map, List.getElem?_eq_getElem (by rw [holen]; exact hp)]
  rfl
 rw [hs]
 unfold firedP
 refine finish_ok hg h.hlen h.hfit hfits.1 hfits.2 ⟨by have := h.num.1; show 0 ≤ x.n + 1; omega, by have := h.num.2; show x.n + 1 ≤ _; omega⟩ (by have := h.whole; show x.whole + 1 ≤ _; omega) rfl (Nat.zero_le _) holen (fun q hq => ?_) (fun p hp => absurd hp (Nat.not_lt_zero _)) (fun p _ hp2 => hol p hp2) (fun hp => ?_)
 ·
  exact t3 q (by rw [hpe]; exact hq)
 ·
  show 1 ≤ lenAt outs 0 ∧ lenAt outs 0 ≤ rO g t 0
  have hp : 0 < (ratesO g t).length := hp
  rw [hol 0 hp]
  have := rO_pos hg hp
  omega
structure ROk (g : GGraph) (s : Nat) (r : RigP) : Prop where
 task : ∀ t, t < g.actors.length → TOk g t s (r.tasks t)
 fits : ∀ d, ∀ z ∈ r.strs d, Fits z
theorem ROk.step {g : GGraph} {caps : List Int} {s t : Nat} {r r1 : RigP} (hg : ActsOk g) (h : ROk g s r) (hs : stepP g caps r t = .goes r1) : ROk g (s + 1) r1 := by
 obtain ⟨ht, k⟩ := step_kind.1 hs
 have hT := h.task t ht
 have key : ∀ {x : TaskP}, TOk g t (s + 1) x → ∀ u, u < g.actors.length → TOk g u (s + 1) (upd r.tasks t x u) := fun hx u hu => by
  by_cases e : u = t
  ·
   subst e; rw [upd_same]; exact hx
  ·
   rw [upd_other e]; exact (h.task u hu).later (by omega)
 have fit : ∀ {d : Nat} {l : List Int}, (∀ z ∈ l, Fits z) → ∀ e, ∀ z ∈ upd r.strs d l e, Fits z := fun {d l} hl e => by
  by_cases hd : e = d
  ·
   subst hd; rw [upd_same]; exact hl
  ·
   rw [upd_other hd]; exact h.fits e
 cases k with
 | give x hgv hf hx =>
  subst hx
  refine ⟨key (gave_ok hg hT hgv), fit fun z hz => ?_⟩
  rcases List.mem_append.1 hz with hz | hz
  ·
   exact h.fits _ z hz
  ·
   obtain rfl : z = nextP (r.tasks t) := by simpa using hz
   obtain ⟨g1, g2, _⟩ := hT.give hgv
   unfold nextP
   rw [List.getElem?_eq_getElem (by rw [g2]; exact g1)]
   simp only [Option.getD_some]
   cases hl : (r.tasks t).gift[(r.tasks t).port]'(by rw [g2]; exact g1) with
   | nil => show Fits 0; unfold Fits; omega
   | cons y l => exact hT.gfit _ (List.getElem_mem (by rw [g2]; exact g1)) y (by rw [hl]; exact List.mem_cons_self)
 | take x v l hgv hp hv hx =>
  subst hx
  have hfv : Fits v := h.fits _ v (by rw [hv]; exact List.mem_cons_self)
  exact ⟨key ((took_ok hg hT hgv hp hfv).later (by omega)), fit fun z hz => h.fits _ z (by rw [hv]; exact List.mem_cons_of_mem _ hz)⟩
 | fire x hgv hp he hx =>
  subst hx
  exact ⟨key (fired_ok hg ht hT hgv hp he), h.fits⟩
end Go.Proofs.YtaholpfikcdhbaaGreat
