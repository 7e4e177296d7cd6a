/- What the kinds of actors do in a firing: weave, add, copies, unweave. -/
import Derived.Test.YtknmiiajeafjpaaReck1
namespace Go.Proofs.Ytknmiiajeafjpaa
open Go.RowKit

/-- the j-th tokens of all ports -/
def atP (ins : List (List Int)) (j : Nat) : List Int := ins.map fun l => l[j]?.getD 0
def weaveP (ins : List (List Int)) (m : Nat) : List Int := (List.range m).flatMap (atP ins)
theorem weaveP_succ (ins : List (List Int)) (m : Nat) : weaveP ins (m + 1) = weaveP ins m ++ atP ins m := by simp [weaveP, List.range_succ]
theorem atP_take (ins : List (List Int)) (j i : Nat) (h : i < ins.length) : atP (ins.take (i + 1)) j = atP (ins.take i) j ++ [(ins[i]?.getD [])[j]?.getD 0] := by
  rw [List.take_succ_eq_append_getElem h]
  unfold atP
  rw [List.map_append]
  congr 1
  simp [h]
theorem weaveP_len (ins : List (List Int)) (m : Nat) : (weaveP ins m).length = m * ins.length := by
  induction m with
  | zero => simp [weaveP]
  | succ m ih => rw [weaveP_succ, List.length_append, ih]; simp [atP, Nat.add_mul]

/-- one more number onto a row of the call's own, in a round that only makes -/
theorem below_app {w w2 : World} {N : Nat} {tmp : Obj} {v : Value} {n : Nat} {xs : List Value} (hi : w.ownsRow N 3 1 v n xs) (hg : (w.alloc tmp).grownBy w2 v.ownBlock) (hb : N ≤ w.heap.size) : Below N w w2 :=
  (((Mods.refl (fun k => v.ownBlock = some k) w).alloc tmp).grown hg (fun k hk _ => hk)).below hb fun k hk e => by have := (hi.lt k e).1; omega

set_option maxRecDepth 100000 in
set_option maxHeartbeats 2000000 in
theorem weave_reck (w : World) (K : Nat) (vi vo nv insv : Value) (n m : Nat) (ins : List (List Int)) (hn : n ≤ 16) (hm : m ≤ 64) (hn1 : 1 ≤ n) (hins0 : ins.length = n) (hinsm : ∀ l ∈ ins, l.length = m) (hK : w.heap[K]? = some (.cells #[vi, vo, nv] 93 (0, 0)))
    (hvi : Has w vi (ivs (List.replicate n (m : Int)))) (hvo : Has w vo (ivs [(n : Int) * m])) (hins : LL w insv ins) :
    Calls Try.prog 86 #[.pointer (some ⟨K, 0, none⟩), insv] w (Reck w K 93 #[vi, vo, nv] [weaveP ins m]) := by
  obtain ⟨i0, hi, hz0, hz1, hz2⟩ := info_parts info_int
  have hnm : n * m ≤ 16 * 64 := Nat.mul_le_mul hn hm
  obtain ⟨oao, ocp, rfl⟩ := hvo.slice
  obtain ⟨bo, oo, eo, -, hco, -, -, hco0⟩ := Vals.at hvo (by simp)
  subst eo
  have hu0 := hco0 0 (by simp)
  obtain ⟨qao, qcp, rfl⟩ := hvi.slice
  obtain ⟨bq, oq, eq, -, hcq, -, -, hcq0⟩ := Vals.at hvi (by simp; omega)
  subst eq
  have hq0 := hcq0 0 (by simp; omega)
  rw [ivs_get (by simp; omega), List.getElem?_replicate, if_pos (by omega)] at hq0
  simp at hu0 hco hq0 hcq
  have hk0 := cells_row w K hK 0 _ rfl
  have hk1 := cells_row w K hK 1 _ rfl
  simp at hk0 hk1
  have hnm0 : ((n * m : Nat) : Int) = (n : Int) * m := by push_cast; rfl
  obtain ⟨w1, hr, hown, hg⟩ := run_make_own (P := Try.prog) w w.heap.size 22 3 i0 _ 1 Try.underlying22 hi hz0 hz1 .i64 .i64 (n * m) (by rw [hz2]; omega) (by unfold maxLen; omega) (Nat.le_refl _)
  rw [hnm0] at hr
  have hb1 : Below w.heap.size w w1 := ((Mods.refl (fun _ => False) w).grown hg (fun k hk _ => by cases hk)).below (Nat.le_refl _) (fun _ _ h => h)
  have hs1 := hb1.size
  have q1 := cell_later hb1 hq0
  have hk01 := cell_later hb1 hk0
  have HI := Lib.hid hins
  have HL := Lib.hid hins0
  have HM := Lib.hid hinsm
  obtain ⟨iao, icp, rfl⟩ := hins.slice
  have hni : (n : Int) ≤ 16 := by omega
  have hmi : (m : Int) ≤ 64 := by omega
  have hni1 : (1 : Int) ≤ n := by omega
  have HK := Lib.hid hK
  have hKw := block_lt hK
  rw [hins0]
  clear hco0 hcq0 hvi hvo hnm0 hg hins hins0 hinsm hK
  go_enter Try.func86, Try.ntmps86
  go_wp2_with fail
  go_loopw [6, 24] (fun v i wr => ∃ k : Nat, k ≤ m ∧ i = .int .i64 k ∧ wr.ownsRow w.heap.size 3 1 v (weaveP ins k).length (ivs (weaveP ins k)) ∧ Below w.heap.size w wr) (fun _ i _ => m - (intOf i).toNat)
  case atStart => exact ⟨0, Nat.zero_le _, rfl, by simpa [weaveP] using hown, hb1⟩
  case round =>
    clear hown hb1 hs1 q1 hk01 hr
    obtain ⟨k, hk, rfl, ho, hb⟩ := hrel
    by_cases hlt : k < m
    · have hlti : (k : Int) < m := by omega
      go_wp2_with fail
      go_loopw [6, 29] (fun v i wr => ∃ j : Nat, j ≤ n ∧ i = .int .i64 j ∧ wr.ownsRow w.heap.size 3 1 v (weaveP ins k ++ atP (ins.take j) k).length (ivs (weaveP ins k ++ atP (ins.take j) k)) ∧ Below w.heap.size w wr) (fun _ i _ => n - (intOf i).toNat)
      case atStart => exact ⟨0, Nat.zero_le _, rfl, by simpa [atP] using ho, hb⟩
      case round =>
        clear ho hb
        obtain ⟨j, hj, rfl, ho, hb⟩ := hrel
        have hs := hb.size
        by_cases hjn : j < n
        · have hjni : (j : Int) < n := by omega
          obtain ⟨bi, oi, ie, hci, hrow⟩ := HI.out.at (by have := HL.out; omega)
          subst ie
          obtain ⟨a0, c0, hr0, hh0⟩ := hrow j (by have := HL.out; omega)
          have hlm : (ins[j]?.getD []).length = m := by
            have hjl : j < ins.length := by have := HL.out; omega
            simp only [List.getElem?_eq_getElem hjl, Option.getD_some]
            exact HM.out _ (List.getElem_mem hjl)
          rw [hlm] at hr0 hh0
          obtain ⟨b0, o0, e0, -, hc0, -, -, hcell⟩ := Vals.at hh0 (by rw [ivs_len, hlm]; omega)
          subst e0
          have hx0 := hcell k (by rw [ivs_len, hlm]; exact hlt)
          rw [ivs_get (by rw [hlm]; exact hlt)] at hx0
          have hr1 := cell_later hb hr0
          have hx1 := cell_later hb hx0
          have hlen : (weaveP ins k ++ atP (ins.take j) k).length ≤ 2000 := by
            rw [List.length_append, weaveP_len]
            have := HL.out
            have h1 : k * ins.length ≤ 64 * 16 := Nat.mul_le_mul (by omega) (by omega)
            simp [atP]; omega
          have HS := Lib.hid (atP_take ins k j (by have := HL.out; omega))
          generalize (ins[j]?.getD [])[k]?.getD 0 = x at hx1 HS
          obtain ⟨sv, cv, rfl⟩ := owns_slice ho
          have hciI : (n : Int) ≤ icp := by have := HL.out; omega
          have hc0I : (m : Int) ≤ c0 := by omega
          clear hcell hrow hh0 hr0 hx0 hlm
          generalize hacc : weaveP ins k ++ atP (ins.take j) k = acc at ho hlen
          have HA := Lib.hid hacc
          have Hlen := Lib.hid hlen
          clear hacc hlen
          go_wp2_with (at_builtin; refine stop_here ?_)
          refine go_on ?_
          refine wpList_app rfl _ _ 22 rfl w.heap.size 3 i0 _ 1 8 Try.underlying22 hi hz0 hz1 hz2 rfl (.slice sv acc.length cv) acc.length _ rfl (ho.alloc (.cells #[.int .i64 x] 3)) (some ⟨wr.heap.size, 0, none⟩) 1 1 [.int .i64 x] rfl rfl (fun h => by cases h) (news_alloc wr [.int .i64 x] 3) (by simp [Value.oneCell']) (by have := Hlen.out; unfold maxLen; omega) (grow_ok (by have := Hlen.out; omega)) (size_le_alloc hs _) ?_
          intro v5 w5 k1 k20 _ _
          have k2 : (wr.alloc (.cells #[.int .i64 x] 3)).grownBy w5 (Value.slice sv acc.length cv).ownBlock := k20
          have hb5 := hb.trans (below_app ho k2 hs)
          have k3 : w5.ownsRow w.heap.size 3 1 v5 (weaveP ins k ++ atP (ins.take (j + 1)) k).length (ivs (weaveP ins k ++ atP (ins.take (j + 1)) k)) := by
            rw [HS.out, ← List.append_assoc, HA.out]; simpa using k1
          clear k1 k20 k2 ho hb
          go_wp2
          go_roundw
          case rel => exact ⟨j + 1, by omega, by go_num, k3, hb5⟩
          case measure => simp [intOf]; omega
        · obtain rfl : j = n := by omega
          rw [List.take_of_length_le (by have := HL.out; omega), ← weaveP_succ] at ho
          go_wp2
          go_roundw
          case rel => exact ⟨k + 1, by omega, by go_num, ho, hb⟩
          case measure => simp [intOf]; omega
    · obtain rfl : k = m := by omega
      obtain ⟨sv, cv, rfl⟩ := owns_slice ho
      go_wp2
      go_ret2
      have hs := hb.size
      have h2 := outs_row (R := K) ho hs (fun e => by have := (ho.lt K e).1; omega) (by omega)
      exact ⟨_, rfl, (Mods.of_below hb _).alloc _, block_alloc (block_mods HK.out (Mods.of_below hb (fun _ => False)) (fun h => h)) _, h2⟩

/-- the first tokens of the ports -/
def firsts (ins : List (List Int)) : List Int := ins.map fun l => l[0]?.getD 0
theorem firsts_take (ins : List (List Int)) (i : Nat) (h : i < ins.length) : firsts (ins.take (i + 1)) = firsts (ins.take i) ++ [(ins[i]?.getD [])[0]?.getD 0] := atP_take ins 0 i h

/-- reckoned, or not -/
def ReckOpt (w : World) (K : Nat) (ks : TypeId) (r : Option (Array Value × List (List Int))) (e : Ending) (w' : World) : Prop :=
  match r with
  | some (cells, outs) => Reck w K ks cells outs e w'
  | none => ReckNo w e w'

set_option maxRecDepth 100000 in
set_option maxHeartbeats 2000000 in
theorem add_reck (w : World) (K : Nat) (insv : Value) (cells : Array Value) (ins : List (List Int)) (hn : ins.length ≤ 1000) (hp : ∀ l ∈ ins, 0 < l.length) (hf : ∀ x ∈ firsts ins, Fits x) (hK : w.heap[K]? = some (.cells cells 97 (0, 0))) (hins : LL w insv ins) :
    Calls Try.prog 88 #[.pointer (some ⟨K, 0, none⟩), insv] w (ReckOpt w K 97 ((sumP 0 (firsts ins)).map fun y => (cells, [[y]]))) := by
  obtain ⟨i0, hi, hz0, hz1, hz2⟩ := info_parts info_int
  have HI := Lib.hid hins
  have HP := Lib.hid hp
  have HF := Lib.hid hf
  have HN := Lib.hid hn
  have hni : (ins.length : Int) ≤ 1000 := by omega
  obtain ⟨iao, icp, rfl⟩ := hins.slice
  have HK := Lib.hid hK
  have hKw := block_lt hK
  clear hins hp hf hn hK
  go_enter Try.func88, Try.ntmps88
  go_wp2_with fail
  go_loopw [6, 13] (fun v i wr => ∃ j : Nat, j ≤ ins.length ∧ i = .int .i64 j ∧ wr.ownsRow w.heap.size 3 1 v (firsts (ins.take j)).length (ivs (firsts (ins.take j))) ∧ Below w.heap.size w wr) (fun _ i _ => ins.length - (intOf i).toNat)
  case atStart => exact ⟨0, Nat.zero_le _, rfl, by simpa [firsts] using World.ownsRow_nil w w.heap.size 3 1, Below.refl _ _⟩
  case round =>
    obtain ⟨j, hj, rfl, ho, hb⟩ := hrel
    have hs := hb.size
    obtain ⟨sv, cv, rfl⟩ := owns_slice ho
    by_cases hjn : j < ins.length
    · have hjni : (j : Int) < ins.length := by omega
      obtain ⟨bi, oi, ie, hci, hrow⟩ := HI.out.at (by omega)
      subst ie
      obtain ⟨a0, c0, hr0, hh0⟩ := hrow j hjn
      have hlm : 0 < (ins[j]?.getD []).length := by
        simp only [List.getElem?_eq_getElem hjn, Option.getD_some]
        exact HP.out _ (List.getElem_mem hjn)
      obtain ⟨b0, o0, e0, -, hc0, -, -, hcell⟩ := Vals.at hh0 (by rw [ivs_len]; exact hlm)
      subst e0
      have hx0 := hcell 0 (by rw [ivs_len]; exact hlm)
      rw [ivs_get hlm, Nat.add_zero] at hx0
      have hr1 := cell_later hb hr0
      have hx1 := cell_later hb hx0
      have HS := Lib.hid (firsts_take ins j hjn)
      have hlen : (firsts (ins.take j)).length ≤ 1000 := by simp [firsts]; have := HN.out; omega
      have hlmi : (0 : Int) < (ins[j]?.getD []).length := by omega
      have hciI : (ins.length : Int) ≤ icp := by omega
      generalize (ins[j]?.getD [])[0]?.getD 0 = x at hx1 HS
      generalize (ins[j]?.getD []).length = lm at hr1 hlm hlmi hc0
      generalize hacc : firsts (ins.take j) = acc at ho hlen
      have HA := Lib.hid hacc
      have Hlen := Lib.hid hlen
      clear hcell hrow hh0 hr0 hx0 hacc hlen
      go_wp2_with (at_builtin; refine stop_here ?_)
      refine go_on ?_
      refine wpList_app rfl _ _ 22 rfl w.heap.size 3 i0 _ 1 8 Try.underlying22 hi hz0 hz1 hz2 rfl (.slice sv acc.length cv) acc.length _ rfl (ho.alloc (.cells #[.int .i64 x] 3)) (some ⟨wr.heap.size, 0, none⟩) 1 1 [.int .i64 x] rfl rfl (fun h => by cases h) (news_alloc wr [.int .i64 x] 3) (by simp [Value.oneCell']) (by have := Hlen.out; unfold maxLen; omega) (grow_ok (by have := Hlen.out; omega)) (size_le_alloc hs _) ?_
      intro v5 w5 k1 k20 _ _
      have k2 : (wr.alloc (.cells #[.int .i64 x] 3)).grownBy w5 (Value.slice sv acc.length cv).ownBlock := k20
      have hb5 := hb.trans (below_app ho k2 hs)
      have k3 : w5.ownsRow w.heap.size 3 1 v5 (firsts (ins.take (j + 1))).length (ivs (firsts (ins.take (j + 1)))) := by
        rw [HS.out, HA.out]; simpa using k1
      clear k1 k20 k2 ho hb
      go_wp2
      go_roundw
      case rel => exact ⟨j + 1, by omega, by go_num, k3, hb5⟩
      case measure => simp [intOf]; omega
    · obtain rfl : j = ins.length := by omega
      rw [List.take_length] at ho
      have hkb := block_mods HK.out (Mods.of_below hb (fun _ => False)) (fun h => h)
      have Hints := (Own.made (fun _ => 0) 0 ho).vals.has
      have hfl : (firsts ins).length ≤ 1000 := by simp [firsts]; exact HN.out
      obtain ⟨R, hR⟩ : ∃ R, sumP 0 (firsts ins) = R := ⟨_, rfl⟩
      go_wp2_with fail
      have hlen2 := ho.1
      refine (sum_any (l := firsts ins) _ _ _ _ (by simpa using Hints) (by omega) HF.out).mono ?_
      rintro e w1 ⟨rfl, rfl⟩
      rw [hR]
      unfold optB
      have HR := Lib.hid hR
      clear hR Hints ho hfl hlen2
      cases R with
      | none =>
        go_wp2
        go_ret2
        rw [HR.out]
        exact reckno rfl ((hb.alloc hs _).alloc (by simp; omega) _)
      | some y =>
        go_wp2
        go_ret2
        rw [HR.out]
        exact reck_num rfl rfl rfl (Mods.of_below hb _) hkb hKw
end Go.Proofs.Ytknmiiajeafjpaa
