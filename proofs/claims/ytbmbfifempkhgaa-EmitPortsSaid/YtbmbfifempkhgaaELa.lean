/- A list lent: Lent. -/
import Derived.Test.YtbmbfifempkhgaaEOa
import Derived.Test.YtbmbfifempkhgaaEHeavy
namespace Go.Proofs.Ytbmbfifempkhgaa
open Go.RowKit

theorem new_cells {w w' : World} {B : Nat} {ao : Option Addr} {vs : List Value} (hb : Below B w w') (h : ∀ ad, ao = some ad → ∀ j u, vs[j]? = some u → w.cell? (ad.add j) = some u) (hB : ∀ k, k < w.heap.size → k < B := by intro k hk; exact hk) : ∀ ad, ao = some ad → ∀ j u, vs[j]? = some u → w'.cell? (ad.add j) = some u := fun ad had j u hu =>
  (hb.cell (hB _ (World.block_lt_of_cell? _ _ (h ad had j u hu)))).trans (h ad had j u hu)

set_option maxHeartbeats 800000 in
theorem lent_any (w : World) (zs : List Int) (ao : Option Addr) (zc : Nat) (hz : zs.length ≤ 17600000000000) (hnone : ao = none → zs.length = 0) (hcz : ∀ ad, ao = some ad → ∀ j u, (zs.map (Value.int .i64))[j]? = some u → w.cell? (ad.add j) = some u) :
    Calls Try.prog 37 #[.slice ao zs.length zc] w fun e w' => ∃ g cap, e = .returned (.slice (some ⟨g, 0, none⟩) zs.length cap) ∧
      w'.ownsRow w.heap.size 3 1 (.slice (some ⟨g, 0, none⟩) (zs.length + 4) cap) (zs.length + 4) ((zs ++ List.replicate 4 (-7770777)).map (Value.int .i64)) ∧ Below w.heap.size w w' := by
  obtain ⟨i0, hi, hz0, hz1, hz2⟩ := info_parts info_int
  have HZ := Lib.hid hz
  have Hnone := Lib.hid hnone
  have Hcz := Lib.hid hcz
  have hzi : (zs.length : Int) + 4 ≤ 4611686018427387904 := by omega
  clear hz hnone hcz
  go_enter Try.func37, Try.ntmps37
  obtain ⟨w1, hr, hown, hg⟩ := run_make_own (P := Try.prog) w w.heap.size 52 3 i0 _ 1 Try.underlying52 hi hz0 hz1 .i64 .i64 (zs.length + 4) (by rw [hz2]; have := HZ.out; omega) (by have := HZ.out; unfold maxLen; omega) (Nat.le_refl _)
  have hcast : ((zs.length + 4 : Nat) : Int) = (zs.length : Int) + 4 := by omega
  rw [hcast] at hr
  go_wp2_with (at_builtin; refine stop_here ?_)
  refine go_on ?_
  have hm1 : Mods (fun _ => False) w w1 := (Mods.refl (fun _ => False) w).grown hg (fun k hk _ => by simp at hk)
  have hsz1 := hm1.size
  have hcz1 : ∀ ad, ao = some ad → ∀ j u, (zs.map (Value.int .i64))[j]? = some u → w1.cell? (ad.add j) = some u := new_cells (below_mods hm1) Hcz.out
  refine wpList_app rfl _ _ 52 rfl w.heap.size 3 i0 _ 1 8 Try.underlying52 hi hz0 hz1 hz2 rfl (.slice (some ⟨w.heap.size, 0, none⟩) 0 (zs.length + 4)) 0 [] rfl hown ao zs.length zc (zs.map (Value.int .i64)) rfl (by simp) Hnone.out hcz1 (ivs_one zs) (by have := HZ.out; unfold maxLen; omega) (grow_ok (by have := HZ.out; omega)) hsz1 ?_
  intro v2 w2 g1 g20 _ g4
  have g2 : w1.grownBy w2 (Value.slice (some ⟨w.heap.size, 0, none⟩) 0 (zs.length + 4)).ownBlock := ⟨g20.os, g20.tape, g20.output, g20.size, g20.block⟩
  have hb2 : Below w.heap.size w w2 := (hm1.below (Nat.le_refl _) (fun _ _ h => h)).trans (((Mods.refl (fun k => k = w.heap.size) w1).grown g2 (fun k hk _ => (Option.some.inj hk).symm)).below hsz1 (fun k hk e => by omega))
  simp only [Nat.zero_add, List.nil_append] at g1
  have hT : ∃ v n, v2 = v ∧ n = zs.length ∧ w2.ownsRow w.heap.size 3 1 v n ((zs ++ List.replicate 0 (-7770777)).map (Value.int .i64)) := ⟨_, _, rfl, rfl, by simpa using g1⟩
  clear g20 g2 g4 hown hg hr hcast hcz1
  go_wp2_with fail
  go_loopw [3, 4] (fun v i wr => ∃ k : Nat, k ≤ 4 ∧ i = .int .i64 k ∧ wr.ownsRow w.heap.size 3 1 v (zs.length + k) ((zs ++ List.replicate k (-7770777)).map (Value.int .i64)) ∧ Below w.heap.size w wr) (fun _ i _ => 4 - (intOf i).toNat)
  case atStart => exact ⟨0, by omega, rfl, by simpa using g1, hb2⟩
  case round =>
    clear hT g1 hb2
    obtain ⟨k, hk, rfl, hrow, hbw⟩ := hrel
    have hsz := hbw.size
    obtain ⟨sv, cv, rfl⟩ := owns_slice hrow
    by_cases hlt : k < 4
    · have hki : (k : Int) < 4 := by omega
      go_wp2_with (at_builtin; refine stop_here ?_)
      refine go_on ?_
      refine wpList_app rfl _ _ 52 rfl w.heap.size 3 i0 _ 1 8 Try.underlying52 hi hz0 hz1 hz2 rfl (.slice sv (zs.length + k) cv) (zs.length + k) _ rfl (hrow.alloc (.cells #[.int .i64 (-7770777)] 3)) (some ⟨wr.heap.size, 0, none⟩) 1 1 [.int .i64 (-7770777)] rfl rfl (fun h => by cases h) (news_alloc wr [.int .i64 (-7770777)] 3) (by simp [Value.oneCell']) (by have := HZ.out; unfold maxLen; omega) (grow_ok (by have := HZ.out; omega)) (size_le_alloc hsz _) ?_
      intro v5 w5 k1 k20 _ _
      have k2 : (wr.alloc (.cells #[.int .i64 (-7770777)] 3)).grownBy w5 (Value.slice sv (zs.length + k) cv).ownBlock := ⟨k20.os, k20.tape, k20.output, k20.size, k20.block⟩
      have hb5 := hbw.trans (below_app hrow k2 hsz)
      have k3 : w5.ownsRow w.heap.size 3 1 v5 (zs.length + (k + 1)) ((zs ++ List.replicate (k + 1) (-7770777)).map (Value.int .i64)) := by
        rw [List.replicate_succ', ← List.append_assoc, List.map_append]; exact k1
      clear k1 k20 k2 hrow
      go_wp2
      go_roundw
      case rel => exact ⟨k + 1, by omega, by go_num, k3, hb5⟩
      case measure => simp [intOf]; omega
    · obtain rfl : k = 4 := by omega
      obtain ⟨_, hcap, g, hg, rfl, _⟩ := owns_cell hrow (by simp)
      have hcapi : (zs.length : Int) ≤ cv := by omega
      go_wp2
      go_ret
      exact ⟨g, cv, rfl, by simpa using hrow, hbw⟩

/-- the own list, and the marked room behind it, as they are -/
def Lends (w : World) (g n cap : Nat) (zs : List Int) : Prop :=
  n = zs.length ∧ n + 4 ≤ cap ∧ g < w.heap.size ∧ (∀ k, k < n → w.cell? ⟨g, k, none⟩ = some (.int .i64 (zs[k]?.getD 0))) ∧ ∀ k, n ≤ k → k < n + 4 → w.cell? ⟨g, k, none⟩ = some (.int .i64 (-7770777))

theorem lends_of_owns {w : World} {base g cap : Nat} {zs : List Int} (h : w.ownsRow base 3 1 (.slice (some ⟨g, 0, none⟩) (zs.length + 4) cap) (zs.length + 4) ((zs ++ List.replicate 4 (-7770777)).map (Value.int .i64))) : Lends w g zs.length cap zs := by
  obtain ⟨_, hcap, g', _, e, hc, _, hg⟩ := owns_cell h (by simp)
  cases e
  refine ⟨rfl, hcap, hg, fun k hk => hc k _ ?_, fun k h1 h2 => hc k _ ?_⟩
  · simp [List.getElem?_append_left, hk]
  · rw [List.getElem?_map, List.getElem?_append_right h1, List.getElem?_replicate, if_pos (by omega)]
    rfl

theorem Lends.below {w w' : World} {g n cap : Nat} {zs : List Int} (h : Lends w g n cap zs) (hb : Below w.heap.size w w') : Lends w' g n cap zs :=
  ⟨h.1, h.2.1, Nat.lt_of_lt_of_le h.2.2.1 hb.size, fun k hk => cell_later hb (h.2.2.2.1 k hk), fun k h1 h2 => cell_later hb (h.2.2.2.2 k h1 h2)⟩

theorem Lends.has {w : World} {g n cap c : Nat} {zs : List Int} (h : Lends w g n cap zs) (hc : n ≤ c) : Has w (.slice (some ⟨g, 0, none⟩) n c) (ivs zs) := by
  obtain ⟨rfl, _, hg, hcl, _⟩ := h
  by_cases hp : 0 < zs.length
  · exact .inr ⟨by simpa using hp, g, 0, c, by simp, by simpa using hc, hg, rfl, fun k hk => by
      have hk' : k < zs.length := by simpa using hk
      rw [ivs_get hk', Nat.zero_add]; exact hcl k hk'⟩
  · obtain rfl : zs = [] := List.eq_nil_of_length_eq_zero (by omega)
    exact .inl ⟨rfl, _, c, rfl⟩

/-- Lent, read -/
def LentRet (w : World) (zs : List Int) (e : Ending) (w' : World) : Prop := ∃ g cap, e = .returned (.slice (some ⟨g, 0, none⟩) zs.length cap) ∧ Has w' (.slice (some ⟨g, 0, none⟩) zs.length cap) (ivs zs) ∧ w.heap.size ≤ g ∧ Below w.heap.size w w'
theorem lent_has {w : World} {ao : Option Addr} {n zc : Nat} {zs : List Int} (h : Has w (.slice ao n zc) (ivs zs)) (hz : zs.length ≤ 17600000000000) : Calls Try.prog 37 #[.slice ao n zc] w (LentRet w zs) := by
  obtain ⟨h1, h2⟩ := h.news
  obtain rfl := Ints.len h
  refine (lent_any w zs ao zc hz h1 h2).mono ?_
  rintro e w' ⟨g, cap, rfl, hown, hb⟩
  have hl := lends_of_owns hown
  exact ⟨g, cap, rfl, hl.has (by have := hl.2.1; omega), (hown.lt g rfl).1, hb⟩
theorem Vals.recol {w : World} {o : Col} {g n cap d : Nat} {vs : List Value} (h : Has w (.slice (some ⟨g, 0, none⟩) n cap) vs) (ho : o g = d) : Vals w o d (.slice (some ⟨g, 0, none⟩) n cap) vs := by
  rcases h with h | ⟨hp, b, off, cap', e, hl, hb, _, hcl⟩
  · exact .inl h
  · cases e
    exact .inr ⟨hp, _, _, _, rfl, hl, hb, ho, hcl⟩
end Go.Proofs.Ytbmbfifempkhgaa

/- lentPorts, LentPlan. -/
namespace Go.Proofs.Ytbmbfifempkhgaa
open Go.RowKit

theorem info_Port : (Try.prog.info? 65).map (fun i => (i.zero, i.size, i.bytes)) = some (some (.agg #[.string ByteArray.empty, .int .i64 0, .int .i64 0]), 3, 32) := by kernel_rfl
theorem info_Region : (Try.prog.info? 70).map (fun i => (i.zero, i.size, i.bytes)) = some (some (.agg #[.int .i64 0, .int .i64 0]), 2, 16) := by kernel_rfl
def markT : ByteArray := { data := #[109, 97, 114, 107] }
def portMark : GPort := ⟨markT, -7770777, 0⟩
def regionMark : GRegion := ⟨-7770777, 0⟩
theorem flat_one {α : Type} {hd : α → List Value} (h : ∀ a, ∀ u ∈ hd a, u.oneCell' = true) (l : List α) : ∀ u ∈ flatV hd l, u.oneCell' = true := fun u hu => by
  obtain ⟨a, _, ha⟩ := List.mem_flatMap.1 hu
  exact h a u ha

def LentPRet (w : World) (l : List GPort) (e : Ending) (w' : World) : Prop := ∃ v, e = .returned v ∧ Recs w' 3 (FlatR portHd) v l ∧ (∀ b off n cap, v = .slice (some ⟨b, off, none⟩) n cap → w.heap.size ≤ b) ∧ Below w.heap.size w w'

set_option maxRecDepth 100000 in
theorem lentports_any (w : World) (v : Value) (l : List GPort) (h : Recs w 3 PortR v l) (hl : l.length ≤ 1100000) : Calls Try.prog 38 #[v] w (LentPRet w l) := by
  obtain ⟨i0, hi, hz0, hz1, hz2⟩ := info_parts info_Port
  obtain ⟨ao, cap, rfl⟩ := h.slice
  have h' : Recs w 3 (FlatR portHd) (.slice ao l.length cap) l := h
  obtain ⟨n1, n2⟩ := h'.news (show ∀ a, (portHd a).length = 3 from fun _ => rfl) (by decide)
  have hfl : (flatV portHd l).length = l.length * 3 := flatV_len (show ∀ a, (portHd a).length = 3 from fun _ => rfl) l
  have H1 := Lib.hid n1
  have H2 := Lib.hid n2
  clear h h' n1 n2
  go_enter Try.func38, Try.ntmps38
  go_wp2_with (at_builtin; refine stop_here ?_)
  refine go_on ?_
  refine wpList_app rfl _ _ 24 rfl w.heap.size 65 i0 _ 3 32 Try.underlying24 hi hz0 hz1 hz2 rfl (.slice none 0 0) 0 [] rfl (World.ownsRow_nil w w.heap.size 65 3) ao l.length cap (flatV portHd l) rfl hfl H1.out H2.out (flat_one (fun a u hu => by simp [portHd] at hu; rcases hu with rfl | rfl | rfl <;> rfl) l) (by unfold maxLen; omega) (grow_ok (by omega)) (Nat.le_refl _) ?_
  intro v5 w5 k1 k20 _ _
  have hb : Below w.heap.size w w5 := below_mods ((Mods.refl _ w).grown k20 (fun b hb _ => by simp [Value.ownBlock] at hb))
  have k3 : w5.ownsRow w.heap.size 65 3 v5 l.length (flatV portHd l) := by simpa using k1
  obtain ⟨s5, c5, rfl⟩ := owns_slice k3
  have HB := Lib.hid hb
  have HK := Lib.hid k3
  have hsz := hb.size
  clear k1 k20 hb k3
  go_wp2_with (at_builtin; refine stop_here ?_)
  refine go_on ?_
  refine wpList_app rfl _ _ 24 rfl w.heap.size 65 i0 _ 3 32 Try.underlying24 hi hz0 hz1 hz2 rfl (.slice s5 l.length c5) l.length _ rfl (HK.out.alloc (.cells #[.string markT, .int .i64 (-7770777), .int .i64 0] 65)) (some ⟨w5.heap.size, 0, none⟩) 1 1 [.string markT, .int .i64 (-7770777), .int .i64 0] rfl rfl (fun h => by cases h) (news_alloc w5 [.string markT, .int .i64 (-7770777), .int .i64 0] 65) (by simp [Value.oneCell']) (by unfold maxLen; omega) (grow_ok (by omega)) (size_le_alloc hsz _) ?_
  intro v6 w6 k1 k20 _ _
  have k2 : (w5.alloc (.cells #[.string markT, .int .i64 (-7770777), .int .i64 0] 65)).grownBy w6 (Value.slice s5 l.length c5).ownBlock := ⟨k20.os, k20.tape, k20.output, k20.size, k20.block⟩
  have hb6 := HB.out.trans (below_app HK.out k2 hsz)
  have k3 : w6.ownsRow w.heap.size 65 3 v6 (l ++ [portMark]).length (flatV portHd (l ++ [portMark])) := by
    rw [flatV_app, List.length_append]; exact k1
  obtain ⟨s6, c6, rfl⟩ := owns_slice k3
  have HR : Hid (Recs w6 3 (FlatR portHd) (.slice s6 (l ++ [portMark]).length c6) (l ++ [portMark])) := Lib.hid (Own.flat (o := fun _ => 0) (c := 0) (show ∀ a, (portHd a).length = 3 from fun _ => rfl) ⟨owns_base k3 (fun _ _ => Nat.zero_le _), fun _ _ => rfl⟩)
  have HLT : Hid (∀ b, (Value.slice s6 (l ++ [portMark]).length c6).ownBlock = some b → w.heap.size ≤ b) := Lib.hid fun b hb => (k3.lt b hb).1
  have HB6 := Lib.hid hb6
  have hcap : l.length + 1 ≤ c6 := by
    obtain ⟨_, _, _, hc, _⟩ := HR.out.at (by simp)
    simpa using hc
  have hci : (l.length : Int) + 1 ≤ c6 := by omega
  clear k1 k20 k2 k3 hb6 HK HB
  go_wp2
  go_ret
  exact ⟨_, rfl, HR.out.front, fun b off n cap e => HLT.out b (by cases e; rfl), HB6.out⟩

theorem recs_mods {α : Type} {hd : α → List Value} {w w' : World} {F : Nat → Prop} {sz : Nat} {ao : Option Addr} {n cap : Nat} {l : List α} (h : Recs w sz (FlatR hd) (.slice ao n cap) l) (m : Mods F w w') (hF : ∀ b off, ao = some ⟨b, off, none⟩ → ¬ F b) : Recs w' sz (FlatR hd) (.slice ao n cap) l := by
  rcases h with h | ⟨hp, b, off, cap', e, hl, hlt, h⟩
  · exact .inl h
  · cases e
    refine .inr ⟨hp, b, off, _, rfl, hl, Nat.lt_of_lt_of_le hlt m.size, fun k hk => ?_⟩
    obtain ⟨cs, h1, h2, h3⟩ := h k hk
    exact ⟨cs, h1, h2, fun i hi => (m.cell (p := ⟨b, off + k * sz + i, none⟩) hlt (hF b off rfl)).trans (h3 i hi)⟩

def LentPlanRet (w : World) (p : GPlan) (e : Ending) (w' : World) : Prop := ∃ v, e = .returned v ∧ HasPlan w' v p ∧ Below w.heap.size w w'

set_option maxRecDepth 100000 in
theorem lentplan_any (w : World) (v : Value) (p : GPlan) (h : HasPlan w v p) (hl : p.regions.length ≤ 1100000) : Calls Try.prog 11 #[v] w (LentPlanRet w p) := by
  obtain ⟨i0, hi, hz0, hz1, hz2⟩ := info_parts info_Region
  obtain ⟨vr, rfl, hr⟩ := h
  obtain ⟨ao, cap, rfl⟩ := hr.slice
  have hfl : (flatV regionHd p.regions).length = p.regions.length * 2 := flatV_len (show ∀ a, (regionHd a).length = 2 from fun _ => rfl) p.regions
  have hb1 := below_alloc w (.cells #[.slice ao p.regions.length cap, .int .i64 p.total] 29)
  have hP := heap_alloc_new w (.cells #[.slice ao p.regions.length cap, .int .i64 p.total] 29)
  have hs1 : (w.alloc (.cells #[.slice ao p.regions.length cap, .int .i64 p.total] 29)).heap.size = w.heap.size + 1 := by simp
  have hr1 := hr.below region_steady hb1
  generalize hW1 : w.alloc (.cells #[.slice ao p.regions.length cap, .int .i64 p.total] 29) = W1 at *
  have hb2 := below_alloc W1 (.cells #[.slice none 0 0, .int .i64 0] 29)
  have hR := heap_alloc_new W1 (.cells #[.slice none 0 0, .int .i64 0] 29)
  have hP2 := block_alloc hP (.cells #[.slice none 0 0, .int .i64 0] 29)
  have hr2 := hr1.below region_steady hb2
  rw [hs1] at hR
  have hB2 := hb1.trans (hb2.mono (by omega))
  have hs2 : (W1.alloc (.cells #[.slice none 0 0, .int .i64 0] 29)).heap.size = w.heap.size + 2 := by rw [World.size_alloc]; omega
  generalize hW2 : W1.alloc (.cells #[.slice none 0 0, .int .i64 0] 29) = W2 at *
  have h' : Recs W2 2 (FlatR regionHd) (.slice ao p.regions.length cap) p.regions := hr2
  obtain ⟨n1, n2⟩ := h'.news (show ∀ a, (regionHd a).length = 2 from fun _ => rfl) (by decide)
  have H1 := Lib.hid n1
  have H2 := Lib.hid n2
  have HP := Lib.hid hP2
  have HR := Lib.hid hR
  have HB2 := Lib.hid hB2
  have y0 := cells_row _ _ hP2 0 _ rfl
  clear h' n1 n2 hr hr1 hr2 hb1 hb2 hP hP2 hR hB2
  go_enter Try.func11, Try.ntmps11
  go_wp2_with (at_builtin; refine stop_here ?_)
  refine go_on ?_
  clear hW1 hW2 hs1 y0
  refine wpList_app rfl _ _ 27 rfl W2.heap.size 70 i0 _ 2 16 Try.underlying27 hi hz0 hz1 hz2 rfl (.slice none 0 0) 0 [] rfl (World.ownsRow_nil W2 W2.heap.size 70 2) ao p.regions.length cap (flatV regionHd p.regions) rfl hfl H1.out H2.out (flat_one (fun a u hu => by simp [regionHd] at hu; rcases hu with rfl | rfl <;> rfl) p.regions) (by unfold maxLen; omega) (grow_ok (by omega)) (Nat.le_refl _) ?_
  intro v5 w5 k1 k20 _ _
  have hb : Below W2.heap.size W2 w5 := below_mods ((Mods.refl _ W2).grown k20 (fun b hb _ => by simp [Value.ownBlock] at hb))
  have k3 : w5.ownsRow W2.heap.size 70 2 v5 p.regions.length (flatV regionHd p.regions) := by simpa using k1
  obtain ⟨s5, c5, rfl⟩ := owns_slice k3
  have HB := Lib.hid hb
  have HK := Lib.hid k3
  have hsz := hb.size
  clear k1 k20 hb k3
  go_wp2_with (at_builtin; refine stop_here ?_)
  refine go_on ?_
  refine wpList_app rfl _ _ 27 rfl W2.heap.size 70 i0 _ 2 16 Try.underlying27 hi hz0 hz1 hz2 rfl (.slice s5 p.regions.length c5) p.regions.length _ rfl (HK.out.alloc (.cells #[.int .i64 (-7770777), .int .i64 0] 70)) (some ⟨w5.heap.size, 0, none⟩) 1 1 [.int .i64 (-7770777), .int .i64 0] rfl rfl (fun h => by cases h) (news_alloc w5 [.int .i64 (-7770777), .int .i64 0] 70) (by simp [Value.oneCell']) (by unfold maxLen; omega) (grow_ok (by omega)) (size_le_alloc hsz _) ?_
  intro v6 w6 k1 k20 _ _
  have k2 : (w5.alloc (.cells #[.int .i64 (-7770777), .int .i64 0] 70)).grownBy w6 (Value.slice s5 p.regions.length c5).ownBlock := ⟨k20.os, k20.tape, k20.output, k20.size, k20.block⟩
  have hb6 := HB.out.trans (below_app HK.out k2 hsz)
  have k3 : w6.ownsRow W2.heap.size 70 2 v6 (p.regions ++ [regionMark]).length (flatV regionHd (p.regions ++ [regionMark])) := by
    rw [flatV_app, List.length_append]; exact k1
  obtain ⟨s6, c6, rfl⟩ := owns_slice k3
  have hr6 := hb6.block _ (block_lt HR.out)
  have hp6 := hb6.block _ (block_lt HP.out)
  rw [HR.out] at hr6
  rw [HP.out] at hp6
  have HOW := Lib.hid k3
  have HR6 := Lib.hid hr6
  have HB6 := Lib.hid hb6
  have HRx : Recs w6 2 (FlatR regionHd) (.slice s6 (p.regions ++ [regionMark]).length c6) (p.regions ++ [regionMark]) := Own.flat (o := fun _ => 0) (c := 0) (show ∀ a, (regionHd a).length = 2 from fun _ => rfl) ⟨owns_base k3 (fun _ _ => Nat.zero_le _), fun _ _ => rfl⟩
  obtain ⟨bb, oo, rfl, hcap, hbb, _⟩ := HRx.at (by simp)
  have hne : bb ≠ w.heap.size + 1 := fun e => by have := (k3.lt bb rfl).1; omega
  have HF := Lib.hid HRx.front
  have hln : (p.regions ++ [regionMark]).length = p.regions.length + 1 := by simp
  rw [hln] at hcap
  clear HRx hln
  have hci : (p.regions.length : Int) + 1 ≤ c6 := by omega
  have hcn : p.regions.length ≤ c6 := by omega
  have y0 := cells_row _ _ hp6 0 _ rfl
  have y1 := cells_row _ _ hp6 1 _ rfl
  have z0 := cells_row _ _ hr6 0 _ rfl
  have z1 := cells_row _ _ hr6 1 _ rfl
  have f0 := frozen_of_block hr6 0
  have f1 := frozen_of_block hr6 1
  clear k1 k20 k2 k3 hb6 HK HB hp6 hr6 HR HP
  go_wp2_with fail
  refine wp_region_lex (fun w' => w'.cell? ⟨w.heap.size, 0, none⟩ = some (.slice ao p.regions.length cap) ∧ w'.cell? ⟨w.heap.size, 1, none⟩ = some (.int .i64 p.total)) [0, 1, 2, 3, 4, 5, 6, 7] [8] (by kernel_rfl) (by kernel_rfl) rfl (fun _ _ hx h => ⟨hx.cell h.1, hx.cell h.2⟩) ⟨y0, y1⟩ ?_
  intro Q' hQ'
  simp only [pickOps, List.flatMap_cons, List.flatMap_nil, List.drop_succ_cons, List.drop_zero, List.take_succ_cons, List.take_zero, List.cons_append, List.nil_append, List.append_nil]
  repeat (first
    | (refine wpReads_skip (by rfl) ?_; (try simp only [Act.put, List.setIfInBounds_toArray, List.set_cons_zero, List.set_cons_succ]))
    | (refine wpReads_cons ?_ (by rfl) (by rfl) ?_ ?_; rotate_left; (intro wz hz; (try dsimp only at hz); go_simp; try with_reducible rfl); (try simp only [Act.put, List.setIfInBounds_toArray, List.set_cons_zero, List.set_cons_succ]))
    | (refine wpReads_any ?_ (by rfl) ?_ ?_; rotate_left; (intro wz; go_simp; try with_reducible rfl); (try simp only [Act.put, List.setIfInBounds_toArray, List.set_cons_zero, List.set_cons_succ])))
  refine wpReads_nil ?_
  go_wp2
  refine bodyPost_ret_by (results_cell_row rfl _ _ _ _ _ _ _ rfl (block_setCell (block_setCell (w := w6.drew) HR6.out 0 (.slice (some ⟨bb, oo, none⟩) p.regions.length c6)) 1 (.int .i64 p.total)) Try.underlying29 rfl (by kernel_rfl)) rfl ?_
  have m : Mods (fun k => k = w.heap.size + 1) w6 ((w6.drew.setCell ⟨w.heap.size + 1, 0, none⟩ (.slice (some ⟨bb, oo, none⟩) p.regions.length c6)).setCell ⟨w.heap.size + 1, 1, none⟩ (.int .i64 p.total)) := (((Mods.refl (fun k => k = w.heap.size + 1) w6).drew.setCell (p := ⟨w.heap.size + 1, 0, none⟩) (fun _ => rfl) _).setCell (p := ⟨w.heap.size + 1, 1, none⟩) (fun _ => rfl) _)
  refine ⟨_, rfl, ⟨_, rfl, recs_mods HF.out m (fun b off e => ?_)⟩, HB2.out.trans ((HB6.out.mono (by omega)).trans (m.below (by have := HB6.out.size; omega) (fun k hk e => by omega)))⟩
  cases e
  exact hne
end Go.Proofs.Ytbmbfifempkhgaa

/- LentGraph. -/
namespace Go.Proofs.Ytbmbfifempkhgaa
open Go.RowKit

theorem info_Actor : (Try.prog.info? 57).map (fun i => (i.zero, i.size, i.bytes)) = some (some (.agg #[.string ByteArray.empty, .int .u8 0, .slice none 0 0]), 3, 48) := by kernel_rfl
theorem info_Edge : (Try.prog.info? 63).map (fun i => (i.zero, i.size, i.bytes)) = some (some (.agg #[.int .i64 0, .int .i64 0, .int .i64 0, .int .i64 0, .slice none 0 0]), 5, 56) := by kernel_rfl
def actorMark : GActor := ⟨markT, 99, []⟩
def edgeMark : GEdge := ⟨-7770777, 0, 0, 0, []⟩
/-- plain records that lie in a block of a colour -/
def RecC {α : Type} (hd : α → List Value) (w : World) (o : Col) (c sz : Nat) (v : Value) (l : List α) : Prop :=
  (l = [] ∧ ∃ ao cap, v = .slice ao 0 cap) ∨ (Recs w sz (FlatR hd) v l ∧ ∃ b off n cap, v = .slice (some ⟨b, off, none⟩) n cap ∧ b < w.heap.size ∧ o b = c)
theorem RecC.made {α : Type} {hd : α → List Value} {w : World} {o : Col} {c sz : Nat} {v : Value} {l : List α} (h : Recs w sz (FlatR hd) v l) (ho : ∀ b off n cap, v = .slice (some ⟨b, off, none⟩) n cap → o b = c) : RecC hd w o c sz v l := by
  rcases h with h | ⟨hp, b, off, cap', e, hl, hlt, h2⟩
  · exact .inl h
  · exact .inr ⟨.inr ⟨hp, b, off, cap', e, hl, hlt, h2⟩, b, off, _, _, e, hlt, ho b off _ _ e⟩
theorem RecC.turn {α : Type} {hd : α → List Value} {w w' : World} {o o' : Col} {c sz : Nat} {C : Nat → Prop} {v : Value} {l : List α} (h : RecC hd w o c sz v l) (T : Turn o o' C w w') (hc : ¬ C c) : RecC hd w' o' c sz v l := by
  rcases h with h | ⟨h, b, off, n, cap, rfl, hlt, hob⟩
  · exact .inl h
  · refine .inr ⟨recs_mods h T.mods (fun b' off' e => ?_), b, off, n, cap, rfl, Nat.lt_of_lt_of_le hlt T.size, (T.same _ hlt).trans hob⟩
    cases e
    rw [hob]; exact hc
theorem RecC.recs {α : Type} {hd : α → List Value} {w : World} {o : Col} {c sz : Nat} {v : Value} {l : List α} (h : RecC hd w o c sz v l) : Recs w sz (FlatR hd) v l := by
  rcases h with h | ⟨h, _⟩
  · exact .inl h
  · exact h

def LentGRet (w : World) (g : GGraph) (e : Ending) (w' : World) : Prop := ∃ v, e = .returned v ∧ HasGraph w' v g ∧ Below w.heap.size w w'
abbrev graphZ : Array Value := #[.string { data := #[] }, .slice none 0 0, .slice none 0 0, .slice none 0 0, .slice none 0 0]

abbrev setGraph (w : World) (R : Nat) (a b c d x : Value) : World := ((((w.setCell ⟨R, 0, none⟩ a).setCell ⟨R, 1, none⟩ b).setCell ⟨R, 2, none⟩ c).setCell ⟨R, 3, none⟩ d).setCell ⟨R, 4, none⟩ x
theorem graph_set {w : World} {R : Nat} {t : TypeId} (h : w.heap[R]? = some (.cells graphZ t (0, 0))) (a b c d x : Value) : (setGraph w R a b c d x).heap[R]? = some (.cells #[a, b, c, d, x] t (0, 0)) :=
  block_setCell (block_setCell (block_setCell (block_setCell (block_setCell h 0 a) 1 b) 2 c) 3 d) 4 x
theorem graph_mods (w : World) (R : Nat) (a b c d x : Value) : Mods (fun k => k = R) w (setGraph w R a b c d x) :=
  (((((Mods.refl (fun k => k = R) w).setCell (p := ⟨R, 0, none⟩) (fun _ => rfl) a).setCell (p := ⟨R, 1, none⟩) (fun _ => rfl) b).setCell (p := ⟨R, 2, none⟩) (fun _ => rfl) c).setCell (p := ⟨R, 3, none⟩) (fun _ => rfl) d).setCell (p := ⟨R, 4, none⟩) (fun _ => rfl) x

set_option maxRecDepth 100000 in
set_option maxHeartbeats 4000000 in
theorem lentgraph_any (w : World) (vg : Value) (g : GGraph) (hg : HasGraph w vg g) (hgr : headN g + pSum g.actors + eSum g.edges ≤ 1048576) (hps : ∀ a ∈ g.actors, a.params.length ≤ 17600000000000) (hes : ∀ e ∈ g.edges, e.start.length ≤ 17600000000000) : Calls Try.prog 10 #[vg] w (LentGRet w g) := by
  obtain ⟨va, ve, vi, vo, rfl, ra, re, ri, ro⟩ := hg.shape
  obtain ⟨aa, ac, rfl⟩ := ra.slice
  obtain ⟨ae, ec, rfl⟩ := re.slice
  obtain ⟨ai, ic, rfl⟩ := ri.slice
  obtain ⟨ao, oc, rfl⟩ := ro.slice
  have RA := Lib.hid ra
  have RE := Lib.hid re
  have RI := Lib.hid ri
  have RO := Lib.hid ro
  have HPS := Lib.hid hps
  have HES := Lib.hid hes
  have hsA : g.actors.length ≤ 1048576 := by unfold headN at hgr; omega
  have hsE : g.edges.length ≤ 1048576 := by unfold headN at hgr; omega
  have hsI : g.ins.length ≤ 1048576 := by unfold headN at hgr; omega
  have hsO : g.outs.length ≤ 1048576 := by unfold headN at hgr; omega
  clear ra re ri ro hg hps hes hgr
  have hb1 := below_alloc w (.cells #[.string g.name, .slice aa g.actors.length ac, .slice ae g.edges.length ec, .slice ai g.ins.length ic, .slice ao g.outs.length oc] 26)
  have T1 := Turn.of_below (fun _ => 0) 9 hb1
  have hG : Blk _ (ext (fun _ => 0) w.heap.size 9) 9 _ _ _ := ⟨heap_alloc_new w (.cells #[.string g.name, .slice aa g.actors.length ac, .slice ae g.edges.length ec, .slice ai g.ins.length ic, .slice ao g.outs.length oc] 26), ext_new (Nat.le_refl _)⟩
  have K1 := (Kept.start w).turn T1 (fun h => h)
  generalize hW1 : w.alloc (.cells #[.string g.name, .slice aa g.actors.length ac, .slice ae g.edges.length ec, .slice ai g.ins.length ic, .slice ao g.outs.length oc] 26) = W1 at *
  have hs1 : W1.heap.size = w.heap.size + 1 := by rw [← hW1]; simp
  have T2 := Turn.of_below (ext (fun _ => 0) w.heap.size 9) 9 (below_alloc W1 (.cells graphZ 26))
  have hR : Blk _ (ext (ext (fun _ => 0) w.heap.size 9) W1.heap.size 9) 9 _ _ _ := ⟨heap_alloc_new W1 (.cells graphZ 26), ext_new (Nat.le_refl _)⟩
  generalize ext (fun _ => 0) w.heap.size 9 = q0 at *
  have K2 := K1.turn T2 (fun h => h)
  have hG2 := hG.turn T2 (fun h => h)
  generalize hW2 : W1.alloc (.cells graphZ 26) = W2 at *
  have hs2 : W2.heap.size = w.heap.size + 2 := by rw [← hW2, World.size_alloc, hs1]
  generalize ext q0 W1.heap.size 9 = q1 at *
  rw [hs1] at hR
  have T3 := Turn.of_below q1 3 (below_alloc W2 (.cells #[.string g.name, .slice none 0 0, .slice none 0 0, .slice none 0 0, .slice none 0 0] 26))
  have hO : Blk _ (ext q1 W2.heap.size 3) 3 _ _ _ := ⟨heap_alloc_new W2 (.cells #[.string g.name, .slice none 0 0, .slice none 0 0, .slice none 0 0, .slice none 0 0] 26), ext_new (Nat.le_refl _)⟩
  have HK := Lib.hid (K2.turn T3 (fun h => h))
  have HGB := Lib.hid (hG2.turn T3 (fun h => h))
  have HR := Lib.hid (hR.turn T3 (fun h => h))
  have z0 := hG2.cell 0 _ rfl
  rw [hs2] at hO HK HGB HR
  have HO := Lib.hid hO
  generalize ext q1 (w.heap.size + 2) 3 = q at *
  clear hb1 T1 hG K1 T2 hR K2 hG2 T3 hO
  go_enter Try.func10, Try.ntmps10
  go_wp2_with fail
  clear hW1 hs1 hW2 hs2 z0
  obtain ⟨n, hn⟩ : ∃ x, g.actors.length = x := ⟨_, rfl⟩
  have HNA := Lib.hid hn
  rw [hn] at hsA HGB ⊢
  clear hn
  go_loopw [4] (fun i wl => ∃ (j : Nat) (q : Col) (v : Value) (ps : List (GActor × Value)), j ≤ n ∧ i = .int .i64 j ∧ Kept w.heap.size q w wl ∧ Blk wl q 9 w.heap.size 26 #[.string g.name, .slice aa n ac, .slice ae g.edges.length ec, .slice ai g.ins.length ic, .slice ao g.outs.length oc] ∧ Blk wl q 9 (w.heap.size + 1) 26 graphZ ∧ Blk wl q 3 (w.heap.size + 2) 26 #[.string g.name, v, .slice none 0 0, .slice none 0 0, .slice none 0 0] ∧ TailAt actorHd GActor.params wl q 4 5 57 3 v ps ∧ ps.map Prod.fst = g.actors.take j) (fun i _ => n - (intOf i).toNat)
  case atStart => exact ⟨0, _, _, [], Nat.zero_le _, rfl, HK.out, HGB.out, HR.out, HO.out, TailAt.nil, rfl⟩
  case round =>
    clear HK HGB HR HO
    obtain ⟨j, q, v, ps, hj, rfl, hK, hG, hR, hO, hT, hps⟩ := hrel
    have HK := Lib.hid hK
    have HGB := Lib.hid hG
    have HR := Lib.hid hR
    have HO := Lib.hid hO
    have HT := Lib.hid hT
    have HPJ := Lib.hid hps
    clear hK hG hR hO hT hps
    by_cases hlt : j < n
    · have hlti : (j : Int) < n := by omega
      have hlt2 : j < g.actors.length := by have := HNA.out; omega
      obtain ⟨b0, off, rfl, hcap, hb0, hrec⟩ := RA.out.at (by omega)
      obtain ⟨cs, hcs, hPR, hcl⟩ := hrec j hlt2
      obtain ⟨xs, rfl, hst⟩ := hPR
      have c0 := cell_later HK.out.below (hcl 0 (by omega))
      have c1 := cell_later HK.out.below (hcl 1 (by omega))
      have c2 := cell_later HK.out.below (hcl 2 (by omega))
      simp at c0 c1 c2
      have hcapi : (n : Int) ≤ ac := by have := HNA.out; omega
      have hst2 : Has w xs (ivs g.actors[j].params) := hst
      obtain ⟨sa, sc, hxs⟩ := Ints.slice hst2
      subst hxs
      have HST := Lib.hid hst2
      have hpl := HPS.out _ (List.getElem_mem hlt2)
      have HTK : Hid (g.actors.take (j + 1) = g.actors.take j ++ [g.actors[j]]) := Lib.hid (List.take_succ_eq_append_getElem hlt2)
      clear hcl hcs hrec hst hst2
      generalize g.actors[j] = a at *
      have y := HGB.out.cell 1 _ rfl
      have hbX := below_alloc wr (.cells #[.string a.name, .int .u8 a.tag, .slice sa a.params.length sc] 57)
      have TX := Turn.of_below q 8 hbX
      have HX : Hid (Blk _ (ext q wr.heap.size 8) 8 _ _ _) := Lib.hid ⟨heap_alloc_new wr (.cells #[.string a.name, .int .u8 a.tag, .slice sa a.params.length sc] 57), ext_new (Nat.le_refl _)⟩
      have HK2 := Lib.hid (HK.out.turn TX (fun h => h))
      have HG2 := Lib.hid (HGB.out.turn TX (fun h => h))
      have HR2 := Lib.hid (HR.out.turn TX (fun h => h))
      have HO2 := Lib.hid (HO.out.turn TX (fun h => h))
      have HT2 := Lib.hid (HT.out.turn TX (fun h => h) (fun h => h))
      have x4 := HX.out.cell 2 _ rfl
      clear hbX TX HK HGB HR HO HT
      go_wp2_with fail
      refine (lent_has (HST.out.below HK2.out.below) hpl).mono ?_
      rintro e w5 ⟨gy, cy, rfl, hy, hgy, hb5⟩
      have T5 := Turn.of_below (ext q wr.heap.size 8) 5 hb5
      have HY5 := Lib.hid (Vals.recol hy (ext_new (o := ext q wr.heap.size 8) (c := 5) hgy))
      have HK5 := Lib.hid (HK2.out.turn T5 (fun h => h))
      have HG5 := Lib.hid (HG2.out.turn T5 (fun h => h))
      have HR5 := Lib.hid (HR2.out.turn T5 (fun h => h))
      have HO5 := Lib.hid (HO2.out.turn T5 (fun h => h))
      have HT5 := Lib.hid (HT2.out.turn T5 (fun h => h) (fun h => h))
      have hX5 := HX.out.turn T5 (fun h => h)
      have v4 := hX5.cell 2 _ rfl
      have f4 := hX5.frozen 2
      obtain ⟨b6, T6⟩ := hX5.set 2 (.slice (some ⟨gy, 0, none⟩) a.params.length cy)
      have HX6 := Lib.hid b6
      have HK6 := Lib.hid (HK5.out.turn T6 (by decide))
      have HG6 := Lib.hid (HG5.out.turn T6 (by decide))
      have HR6 := Lib.hid (HR5.out.turn T6 (by decide))
      have HO6 := Lib.hid (HO5.out.turn T6 (by decide))
      have HT6 := Lib.hid (HT5.out.turn T6 (by decide) (by decide))
      have HY6 := Lib.hid (HY5.out.turn T6 (by decide))
      clear hy hgy hb5 T5 T6 b6 hX5 HX x4 y c0 c1 c2 HK2 HG2 HR2 HO2 HT2 HK5 HG5 HR5 HO5 HT5 HY5
      obtain ⟨pa0, pc0, rfl⟩ := HT6.out.own.slice
      have o1 := HO6.out.cell 1 _ rfl
      have u0 := HX6.out.cell 0 _ rfl
      have u1 := HX6.out.cell 1 _ rfl
      have u2 := HX6.out.cell 2 _ rfl
      have HPL : Hid (ps.length = j) := Lib.hid (by have := congrArg List.length HPJ.out; rw [List.length_map, List.length_take] at this; omega)
      go_wp2_with (at_builtin; refine stop_here ?_)
      refine go_on ?_
      clear v4 f4 o1 u0 u1 u2
      obtain ⟨i0, hi, hz0, hz1, hz2⟩ := info_parts info_Actor
      obtain ⟨w6, hw6⟩ : ∃ x, w5.setCell ⟨wr.heap.size, 2, none⟩ (.slice (some ⟨gy, 0, none⟩) a.params.length cy) = x := ⟨_, rfl⟩
      obtain ⟨q6, hq6⟩ : ∃ x : Col, x = ext (ext q wr.heap.size 8) (wr.alloc (.cells #[.string a.name, .int .u8 a.tag, .slice sa a.params.length sc] 57)).heap.size 5 := ⟨_, rfl⟩
      rw [hw6, ← hq6] at HX6 HK6 HG6 HR6 HO6 HT6 HY6
      have hs6 : w5.heap.size = w6.heap.size := by rw [← hw6, size_setCell']
      rw [hw6, hs6]
      clear hw6 hq6 hs6
      refine wpList_app rfl _ _ 22 rfl 0 57 i0 _ 3 48 Try.underlying22 hi hz0 hz1 hz2 rfl (.slice pa0 ps.length pc0) ps.length _ rfl (HT6.out.own.1.alloc (.cells #[.string a.name, .int .u8 a.tag, .slice (some ⟨gy, 0, none⟩) a.params.length cy] 57)) (some ⟨w6.heap.size, 0, none⟩) 1 1 [.string a.name, .int .u8 a.tag, .slice (some ⟨gy, 0, none⟩) a.params.length cy] rfl rfl (fun h => by cases h) (news_alloc w6 [.string a.name, .int .u8 a.tag, .slice (some ⟨gy, 0, none⟩) a.params.length cy] 57) (by simp [Value.oneCell']) (by have := HPL.out; unfold maxLen; omega) (grow_ok (by have := HPL.out; omega)) (Nat.zero_le _) ?_
      intro v7 w7 k1 k20 _ k4
      have hm : Mods (fun b => (Value.slice pa0 ps.length pc0).ownBlock = some b) w6 w7 := ((Mods.refl _ w6).alloc _).grown k20 (fun b hb _ => hb)
      obtain ⟨z4, zf, T7, N7, B7⟩ := HT6.out.grow (a := a) (y := .slice (some ⟨gy, 0, none⟩) a.params.length cy) (v' := v7) (w2 := w7) HO6.out (i := 1) (by decide) (by decide) (by decide) (by show 1 < 5; decide) HY6.out k1 hm (k4.imp id (fun k4 b hb => by rw [k4] at hb; have := Option.some.inj hb; simp at this; omega))
      obtain ⟨sp7, cp7, rfl⟩ := owns_slice k1
      have HK7 := Lib.hid (HK6.out.turn T7 (by decide))
      have HG7 := Lib.hid (HG6.out.turn T7 (by decide))
      have HR7 := Lib.hid (HR6.out.turn T7 (by decide))
      have HO7 := Lib.hid B7
      have HT7 := Lib.hid N7
      have HPJ7 : Hid ((ps ++ [(a, (.slice (some ⟨gy, 0, none⟩) a.params.length cy : Value))]).map Prod.fst = g.actors.take (j + 1)) := Lib.hid (by rw [HTK.out, ← HPJ.out]; simp)
      clear HPL T7 N7 B7 k1 k20 k4 hm HK6 HG6 HR6 HO6 HT6 HY6 HX6
      go_wp2
      go_roundw
      case rel => exact ⟨j + 1, _, _, _, hlt, by go_num, HK7.out, HG7.out, HR7.out, HO7.out, HT7.out, HPJ7.out⟩
      case measure => simp [intOf]; omega
    · obtain rfl : n = j := by omega
      clear hj hlt
      have hPJ := HPJ.out
      rw [List.take_of_length_le (by have := HNA.out; omega)] at hPJ
      have HPJ := Lib.hid hPJ
      have HPL : Hid (ps.length = n) := Lib.hid (by have := congrArg List.length hPJ; rw [List.length_map] at this; have := HNA.out; omega)
      clear hPJ
      obtain ⟨pa0, pc0, rfl⟩ := HT.out.own.slice
      have o1 := HO.out.cell 1 _ rfl
      have y := HGB.out.cell 1 _ rfl
      obtain ⟨i0, hi, hz0, hz1, hz2⟩ := info_parts info_Actor
      go_wp2_with (at_builtin; refine stop_here ?_)
      refine go_on ?_
      clear o1
      refine wpList_app rfl _ _ 22 rfl 0 57 i0 _ 3 48 Try.underlying22 hi hz0 hz1 hz2 rfl (.slice pa0 ps.length pc0) ps.length _ rfl (HT.out.own.1.alloc (.cells #[.string markT, .int .u8 99, .slice none 0 0] 57)) (some ⟨wr.heap.size, 0, none⟩) 1 1 [.string markT, .int .u8 99, .slice none 0 0] rfl rfl (fun h => by cases h) (news_alloc wr [.string markT, .int .u8 99, .slice none 0 0] 57) (by simp [Value.oneCell']) (by have := HPL.out; unfold maxLen; omega) (grow_ok (by have := HPL.out; omega)) (Nat.zero_le _) ?_
      intro v7 w7 k1 k20 _ k4
      have hm : Mods (fun b => (Value.slice pa0 ps.length pc0).ownBlock = some b) wr w7 := ((Mods.refl _ wr).alloc _).grown k20 (fun b hb _ => hb)
      obtain ⟨z4, zf, T7, N7, B7⟩ := HT.out.grow (a := actorMark) (y := .slice none 0 0) (v' := v7) (w2 := w7) HO.out (i := 1) (by decide) (by decide) (by decide) (by show 1 < 5; decide) (.inl ⟨rfl, _, _, rfl⟩) k1 hm (k4.imp id (fun k4 b hb => by rw [k4] at hb; have := Option.some.inj hb; simp at this; omega))
      obtain ⟨sp7, cp7, rfl⟩ := owns_slice k1
      have HK7 := Lib.hid (HK.out.turn T7 (by decide))
      have hG7 := HGB.out.turn T7 (by decide)
      have HG7 := Lib.hid hG7
      have HR7 := Lib.hid (HR.out.turn T7 (by decide))
      obtain ⟨_, hcp7, ba, _, eb7, _⟩ := owns_cell k1 (by simp [actorHd])
      subst eb7
      have hcp7n : n ≤ cp7 := by have := HPL.out; omega
      have y7 := hG7.cell 1 _ rfl
      have o7 := B7.cell 1 _ rfl
      have g7 := B7.frozen 1
      obtain ⟨B8, T8⟩ := B7.set 1 (.slice (some ⟨ba, 0, none⟩) n cp7)
      have HK8 := Lib.hid (HK7.out.turn T8 (by decide))
      have HG8 := Lib.hid (HG7.out.turn T8 (by decide))
      have HR8 := Lib.hid (HR7.out.turn T8 (by decide))
      have HO8 := Lib.hid B8
      have HT8 := Lib.hid (N7.turn T8 (by decide) (by decide))
      clear T7 N7 B7 B8 T8 k1 k20 k4 hm hG7 HK HGB HR HO HT HK7 HG7 HR7 y
      go_wp2_with fail
      rw [HPL.out] at HT8
      rw [HPL.out] at HK8 HG8 HR8 HO8 ⊢
      obtain ⟨w8, hw8⟩ : ∃ x, (w7.setCell ⟨w.heap.size + 2, 1, none⟩ (.slice (some ⟨ba, 0, none⟩) (n + 1) cp7)).setCell ⟨w.heap.size + 2, 1, none⟩ (.slice (some ⟨ba, 0, none⟩) n cp7) = x := ⟨_, rfl⟩
      obtain ⟨q8, hq8⟩ : ∃ x : Col, x = ext q wr.heap.size 4 := ⟨_, rfl⟩
      obtain ⟨pa, hpa⟩ : ∃ x, ps ++ [(actorMark, Value.slice none 0 0)] = x := ⟨_, rfl⟩
      have HPA : Hid (pa.map Prod.fst = g.actors ++ [actorMark]) := Lib.hid (by rw [← hpa, ← HPJ.out]; simp)
      rw [hw8, ← hq8] at HK8 HG8 HR8 HO8 HT8
      rw [hpa] at HT8
      rw [hw8]
      have HTA := HT8
      have HK := HK8
      have HGB := HG8
      have HR := HR8
      have HO : Hid (Blk w8 q8 3 (w.heap.size + 2) 26 #[.string g.name, .slice (some ⟨ba, 0, none⟩) n cp7, .slice none 0 0, .slice none 0 0, .slice none 0 0]) := HO8
      clear hw8 hq8 hpa HT8 HK8 HG8 HR8 HO8 HPJ HPL o7 g7 y7 z4 zf
      obtain ⟨ca, hca⟩ : ∃ x, x = cp7 := ⟨_, rfl⟩
      rw [← hca] at HTA HO hcp7n
      have HCA := Lib.hid hca
      clear hca
      obtain ⟨m, hm⟩ : ∃ x, g.edges.length = x := ⟨_, rfl⟩
      have HNE := Lib.hid hm
      rw [hm] at hsE HGB ⊢
      clear hm
      go_loopw [6] (fun i wl => ∃ (j : Nat) (q : Col) (v : Value) (ps : List (GEdge × Value)), j ≤ m ∧ i = .int .i64 j ∧ Kept w.heap.size q w wl ∧ Blk wl q 9 w.heap.size 26 #[.string g.name, .slice aa n ac, .slice ae m ec, .slice ai g.ins.length ic, .slice ao g.outs.length oc] ∧ Blk wl q 9 (w.heap.size + 1) 26 graphZ ∧ Blk wl q 3 (w.heap.size + 2) 26 #[.string g.name, .slice (some ⟨ba, 0, none⟩) n ca, v, .slice none 0 0, .slice none 0 0] ∧ TailAt edgeHd GEdge.start wl q 6 7 63 5 v ps ∧ ps.map Prod.fst = g.edges.take j ∧ TailAt actorHd GActor.params wl q 4 5 57 3 (.slice (some ⟨ba, 0, none⟩) (n + 1) ca) pa) (fun i _ => m - (intOf i).toNat)
      case atStart => exact ⟨0, _, _, [], Nat.zero_le _, rfl, HK.out, HGB.out, HR.out, HO.out, TailAt.nil, rfl, HTA.out⟩
      case round =>
        clear HK HGB HR HO HTA
        obtain ⟨j, q, v, ps, hj, rfl, hK, hG, hR, hO, hT, hps, hTA⟩ := hrel
        have HK := Lib.hid hK
        have HGB := Lib.hid hG
        have HR := Lib.hid hR
        have HO := Lib.hid hO
        have HT := Lib.hid hT
        have HPJ := Lib.hid hps
        have HTA := Lib.hid hTA
        clear hK hG hR hO hT hps hTA
        by_cases hlt : j < m
        · have hlti : (j : Int) < m := by omega
          have hlt2 : j < g.edges.length := by have := HNE.out; omega
          obtain ⟨b0, off, rfl, hcap, hb0, hrec⟩ := RE.out.at (by omega)
          obtain ⟨cs, hcs, hPR, hcl⟩ := hrec j hlt2
          obtain ⟨xs, rfl, hst⟩ := hPR
          have c0 := cell_later HK.out.below (hcl 0 (by omega))
          have c1 := cell_later HK.out.below (hcl 1 (by omega))
          have c2 := cell_later HK.out.below (hcl 2 (by omega))
          have c3 := cell_later HK.out.below (hcl 3 (by omega))
          have c4 := cell_later HK.out.below (hcl 4 (by omega))
          simp at c0 c1 c2 c3 c4
          have hcapi : (m : Int) ≤ ec := by have := HNE.out; omega
          have hst2 : Has w xs (ivs g.edges[j].start) := hst
          obtain ⟨sa, sc, hxs⟩ := Ints.slice hst2
          subst hxs
          have HST := Lib.hid hst2
          have hpl := HES.out _ (List.getElem_mem hlt2)
          have HTK : Hid (g.edges.take (j + 1) = g.edges.take j ++ [g.edges[j]]) := Lib.hid (List.take_succ_eq_append_getElem hlt2)
          clear hcl hcs hrec hst hst2
          generalize g.edges[j] = a at *
          have y := HGB.out.cell 2 _ rfl
          have hbX := below_alloc wr (.cells #[.int .i64 a.src, .int .i64 a.sport, .int .i64 a.dst, .int .i64 a.dport, .slice sa a.start.length sc] 63)
          have TX := Turn.of_below q 8 hbX
          have HX : Hid (Blk _ (ext q wr.heap.size 8) 8 _ _ _) := Lib.hid ⟨heap_alloc_new wr (.cells #[.int .i64 a.src, .int .i64 a.sport, .int .i64 a.dst, .int .i64 a.dport, .slice sa a.start.length sc] 63), ext_new (Nat.le_refl _)⟩
          have HK2 := Lib.hid (HK.out.turn TX (fun h => h))
          have HG2 := Lib.hid (HGB.out.turn TX (fun h => h))
          have HR2 := Lib.hid (HR.out.turn TX (fun h => h))
          have HO2 := Lib.hid (HO.out.turn TX (fun h => h))
          have HT2 := Lib.hid (HT.out.turn TX (fun h => h) (fun h => h))
          have HTA2 := Lib.hid (HTA.out.turn TX (fun h => h) (fun h => h))
          have x4 := HX.out.cell 4 _ rfl
          clear hbX TX HK HGB HR HO HT HTA
          go_wp2_with fail
          refine (lent_has (HST.out.below HK2.out.below) hpl).mono ?_
          rintro e w5 ⟨gy, cy, rfl, hy, hgy, hb5⟩
          have T5 := Turn.of_below (ext q wr.heap.size 8) 7 hb5
          have HY5 := Lib.hid (Vals.recol hy (ext_new (o := ext q wr.heap.size 8) (c := 7) hgy))
          have HK5 := Lib.hid (HK2.out.turn T5 (fun h => h))
          have HG5 := Lib.hid (HG2.out.turn T5 (fun h => h))
          have HR5 := Lib.hid (HR2.out.turn T5 (fun h => h))
          have HO5 := Lib.hid (HO2.out.turn T5 (fun h => h))
          have HT5 := Lib.hid (HT2.out.turn T5 (fun h => h) (fun h => h))
          have HTA5 := Lib.hid (HTA2.out.turn T5 (fun h => h) (fun h => h))
          have hX5 := HX.out.turn T5 (fun h => h)
          have v4 := hX5.cell 4 _ rfl
          have f4 := hX5.frozen 4
          obtain ⟨b6, T6⟩ := hX5.set 4 (.slice (some ⟨gy, 0, none⟩) a.start.length cy)
          have HX6 := Lib.hid b6
          have HK6 := Lib.hid (HK5.out.turn T6 (by decide))
          have HG6 := Lib.hid (HG5.out.turn T6 (by decide))
          have HR6 := Lib.hid (HR5.out.turn T6 (by decide))
          have HO6 := Lib.hid (HO5.out.turn T6 (by decide))
          have HT6 := Lib.hid (HT5.out.turn T6 (by decide) (by decide))
          have HTA6 := Lib.hid (HTA5.out.turn T6 (by decide) (by decide))
          have HY6 := Lib.hid (HY5.out.turn T6 (by decide))
          clear hy hgy hb5 T5 T6 b6 hX5 HX x4 y c0 c1 c2 c3 c4 HK2 HG2 HR2 HO2 HT2 HK5 HG5 HR5 HO5 HT5 HY5 HTA2 HTA5
          obtain ⟨pa0, pc0, rfl⟩ := HT6.out.own.slice
          have o1 := HO6.out.cell 2 _ rfl
          have u0 := HX6.out.cell 0 _ rfl
          have u1 := HX6.out.cell 1 _ rfl
          have u2 := HX6.out.cell 2 _ rfl
          have u3 := HX6.out.cell 3 _ rfl
          have u4 := HX6.out.cell 4 _ rfl
          have HPL : Hid (ps.length = j) := Lib.hid (by have := congrArg List.length HPJ.out; rw [List.length_map, List.length_take] at this; omega)
          go_wp2_with (at_builtin; refine stop_here ?_)
          refine go_on ?_
          clear v4 f4 o1 u0 u1 u2 u3 u4
          obtain ⟨i0, hi, hz0, hz1, hz2⟩ := info_parts info_Edge
          obtain ⟨w6, hw6⟩ : ∃ x, w5.setCell ⟨wr.heap.size, 4, none⟩ (.slice (some ⟨gy, 0, none⟩) a.start.length cy) = x := ⟨_, rfl⟩
          obtain ⟨q6, hq6⟩ : ∃ x : Col, x = ext (ext q wr.heap.size 8) (wr.alloc (.cells #[.int .i64 a.src, .int .i64 a.sport, .int .i64 a.dst, .int .i64 a.dport, .slice sa a.start.length sc] 63)).heap.size 7 := ⟨_, rfl⟩
          rw [hw6, ← hq6] at HX6 HK6 HG6 HR6 HO6 HT6 HY6 HTA6
          have hs6 : w5.heap.size = w6.heap.size := by rw [← hw6, size_setCell']
          rw [hw6, hs6]
          clear hw6 hq6 hs6
          refine wpList_app rfl _ _ 23 rfl 0 63 i0 _ 5 56 Try.underlying23 hi hz0 hz1 hz2 rfl (.slice pa0 ps.length pc0) ps.length _ rfl (HT6.out.own.1.alloc (.cells #[.int .i64 a.src, .int .i64 a.sport, .int .i64 a.dst, .int .i64 a.dport, .slice (some ⟨gy, 0, none⟩) a.start.length cy] 63)) (some ⟨w6.heap.size, 0, none⟩) 1 1 [.int .i64 a.src, .int .i64 a.sport, .int .i64 a.dst, .int .i64 a.dport, .slice (some ⟨gy, 0, none⟩) a.start.length cy] rfl rfl (fun h => by cases h) (news_alloc w6 [.int .i64 a.src, .int .i64 a.sport, .int .i64 a.dst, .int .i64 a.dport, .slice (some ⟨gy, 0, none⟩) a.start.length cy] 63) (by simp [Value.oneCell']) (by have := HPL.out; unfold maxLen; omega) (grow_ok (by have := HPL.out; omega)) (Nat.zero_le _) ?_
          intro v7 w7 k1 k20 _ k4
          have hm : Mods (fun b => (Value.slice pa0 ps.length pc0).ownBlock = some b) w6 w7 := ((Mods.refl _ w6).alloc _).grown k20 (fun b hb _ => hb)
          obtain ⟨z4, zf, T7, N7, B7⟩ := HT6.out.grow (a := a) (y := .slice (some ⟨gy, 0, none⟩) a.start.length cy) (v' := v7) (w2 := w7) HO6.out (i := 2) (by decide) (by decide) (by decide) (by show 2 < 5; decide) HY6.out k1 hm (k4.imp id (fun k4 b hb => by rw [k4] at hb; have := Option.some.inj hb; simp at this; omega))
          obtain ⟨sp7, cp7, rfl⟩ := owns_slice k1
          have HK7 := Lib.hid (HK6.out.turn T7 (by decide))
          have HG7 := Lib.hid (HG6.out.turn T7 (by decide))
          have HR7 := Lib.hid (HR6.out.turn T7 (by decide))
          have HTA7 := Lib.hid (HTA6.out.turn T7 (by decide) (by decide))
          have HO7 := Lib.hid B7
          have HT7 := Lib.hid N7
          have HPJ7 : Hid ((ps ++ [(a, (.slice (some ⟨gy, 0, none⟩) a.start.length cy : Value))]).map Prod.fst = g.edges.take (j + 1)) := Lib.hid (by rw [HTK.out, ← HPJ.out]; simp)
          clear HPL T7 N7 B7 k1 k20 k4 hm HK6 HG6 HR6 HO6 HT6 HY6 HX6 HTA6
          go_wp2
          go_roundw
          case rel => exact ⟨j + 1, _, _, _, hlt, by go_num, HK7.out, HG7.out, HR7.out, HO7.out, HT7.out, HPJ7.out, HTA7.out⟩
          case measure => simp [intOf]; omega
        · obtain rfl : m = j := by omega
          clear hj hlt
          have hPJ := HPJ.out
          rw [List.take_of_length_le (by have := HNE.out; omega)] at hPJ
          have HPJ := Lib.hid hPJ
          have HPL : Hid (ps.length = m) := Lib.hid (by have := congrArg List.length hPJ; rw [List.length_map] at this; have := HNE.out; omega)
          clear hPJ
          obtain ⟨pa0, pc0, rfl⟩ := HT.out.own.slice
          have o1 := HO.out.cell 2 _ rfl
          have y := HGB.out.cell 2 _ rfl
          obtain ⟨i0, hi, hz0, hz1, hz2⟩ := info_parts info_Edge
          go_wp2_with (at_builtin; refine stop_here ?_)
          refine go_on ?_
          clear o1
          refine wpList_app rfl _ _ 23 rfl 0 63 i0 _ 5 56 Try.underlying23 hi hz0 hz1 hz2 rfl (.slice pa0 ps.length pc0) ps.length _ rfl (HT.out.own.1.alloc (.cells #[.int .i64 (-7770777), .int .i64 0, .int .i64 0, .int .i64 0, .slice none 0 0] 63)) (some ⟨wr.heap.size, 0, none⟩) 1 1 [.int .i64 (-7770777), .int .i64 0, .int .i64 0, .int .i64 0, .slice none 0 0] rfl rfl (fun h => by cases h) (news_alloc wr [.int .i64 (-7770777), .int .i64 0, .int .i64 0, .int .i64 0, .slice none 0 0] 63) (by simp [Value.oneCell']) (by have := HPL.out; unfold maxLen; omega) (grow_ok (by have := HPL.out; omega)) (Nat.zero_le _) ?_
          intro v7 w7 k1 k20 _ k4
          have hm : Mods (fun b => (Value.slice pa0 ps.length pc0).ownBlock = some b) wr w7 := ((Mods.refl _ wr).alloc _).grown k20 (fun b hb _ => hb)
          obtain ⟨z4, zf, T7, N7, B7⟩ := HT.out.grow (a := edgeMark) (y := .slice none 0 0) (v' := v7) (w2 := w7) HO.out (i := 2) (by decide) (by decide) (by decide) (by show 2 < 5; decide) (.inl ⟨rfl, _, _, rfl⟩) k1 hm (k4.imp id (fun k4 b hb => by rw [k4] at hb; have := Option.some.inj hb; simp at this; omega))
          obtain ⟨sp7, cp7, rfl⟩ := owns_slice k1
          have HK7 := Lib.hid (HK.out.turn T7 (by decide))
          have hG7 := HGB.out.turn T7 (by decide)
          have HG7 := Lib.hid hG7
          have HR7 := Lib.hid (HR.out.turn T7 (by decide))
          have HTA7 := Lib.hid (HTA.out.turn T7 (by decide) (by decide))
          obtain ⟨_, hcp7, be, _, eb7, _⟩ := owns_cell k1 (by simp [edgeHd])
          subst eb7
          have hcp7n : m ≤ cp7 := by have := HPL.out; omega
          have y7 := hG7.cell 2 _ rfl
          have o7 := B7.cell 2 _ rfl
          have g7 := B7.frozen 2
          obtain ⟨B8, T8⟩ := B7.set 2 (.slice (some ⟨be, 0, none⟩) m cp7)
          have HK8 := Lib.hid (HK7.out.turn T8 (by decide))
          have HG8 := Lib.hid (HG7.out.turn T8 (by decide))
          have HR8 := Lib.hid (HR7.out.turn T8 (by decide))
          have HTA8 := Lib.hid (HTA7.out.turn T8 (by decide) (by decide))
          have HO8 := Lib.hid B8
          have y9 := HG8.out.cell 3 _ rfl
          have HT8 := Lib.hid (N7.turn T8 (by decide) (by decide))
          clear T7 N7 B7 B8 T8 k1 k20 k4 hm hG7 HK HGB HR HO HT HK7 HG7 HR7 HTA HTA7 y
          go_wp2_with fail
          rw [HPL.out] at HT8
          rw [HPL.out] at HK8 HG8 HR8 HO8 HTA8 ⊢
          have HPE : Hid ((ps ++ [(edgeMark, Value.slice none 0 0)]).map Prod.fst = g.edges ++ [edgeMark]) := Lib.hid (by rw [← HPJ.out]; simp)
          clear y9 o7 g7 y7 z4 zf HPJ
          refine (lentports_any _ _ g.ins (RI.out.below port_steady HK8.out.below) (by omega)).mono ?_
          rintro e w9 ⟨vi, rfl, hri, hli, hb9⟩
          have T9 := fun q => Turn.of_below q 10 hb9
          have HK9 := Lib.hid (HK8.out.turn (T9 _) (fun h => h))
          have HG9 := Lib.hid (HG8.out.turn (T9 _) (fun h => h))
          have HR9 := Lib.hid (HR8.out.turn (T9 _) (fun h => h))
          have hO9 := HO8.out.turn (T9 _) (fun h => h)
          have HA9 := Lib.hid (HTA8.out.turn (T9 _) (fun h => h) (fun h => h))
          have HE9 := Lib.hid (HT8.out.turn (T9 _) (fun h => h) (fun h => h))
          obtain ⟨ii, jc, rfl⟩ := hri.slice
          have HI9 := Lib.hid (RecC.made (o := ext (ext q wr.heap.size 6) _ 10) (c := 10) hri (fun b off n cap e => ext_new (hli b off n cap e)))
          obtain ⟨BX, TX⟩ := hO9.set 3 (.slice ii g.ins.length jc)
          have o9 := hO9.cell 3 _ rfl
          have g9 := hO9.frozen 3
          have HKX := Lib.hid (HK9.out.turn TX (by decide))
          have HGX := Lib.hid (HG9.out.turn TX (by decide))
          have HRX := Lib.hid (HR9.out.turn TX (by decide))
          have HAX := Lib.hid (HA9.out.turn TX (by decide) (by decide))
          have HEX := Lib.hid (HE9.out.turn TX (by decide) (by decide))
          have HIX := Lib.hid (HI9.out.turn TX (by decide))
          have HOX := Lib.hid BX
          have yx := HGX.out.cell 4 _ rfl
          clear T9 HK8 HG8 HR8 HO8 HTA8 HT8 hri hli hb9 hO9 HK9 HG9 HR9 HA9 HE9 HI9 BX TX
          go_wp2_with fail
          clear o9 g9 yx
          obtain ⟨wx, hwx⟩ : ∃ x, w9.setCell ⟨w.heap.size + 2, 3, none⟩ (.slice ii g.ins.length jc) = x := ⟨_, rfl⟩
          obtain ⟨qx, hqx⟩ : ∃ x : Col, x = ext (ext q wr.heap.size 6) ((w7.setCell ⟨w.heap.size + 2, 2, none⟩ (.slice (some ⟨be, 0, none⟩) (m + 1) cp7)).setCell ⟨w.heap.size + 2, 2, none⟩ (.slice (some ⟨be, 0, none⟩) m cp7)).heap.size 10 := ⟨_, rfl⟩
          rw [hwx, ← hqx] at HKX HGX HRX HAX HEX HIX HOX
          rw [hwx]
          clear hwx hqx
          refine (lentports_any _ _ g.outs (RO.out.below port_steady HKX.out.below) (by omega)).mono ?_
          rintro e wy ⟨vo, rfl, hro, hlo, hby⟩
          have T9 := fun q => Turn.of_below q 11 hby
          have HKY := Lib.hid (HKX.out.turn (T9 _) (fun h => h))
          have hRY := HRX.out.turn (T9 _) (fun h => h)
          have hOY := HOX.out.turn (T9 _) (fun h => h)
          have hAY := HAX.out.turn (T9 _) (fun h => h) (fun h => h)
          have hEY := HEX.out.turn (T9 _) (fun h => h) (fun h => h)
          have hIY := HIX.out.turn (T9 _) (fun h => h)
          obtain ⟨io, ko, rfl⟩ := hro.slice
          have hUY := RecC.made (o := ext qx _ 11) (c := 11) hro (fun b off n cap e => ext_new (hlo b off n cap e))
          obtain ⟨BX, TX⟩ := hOY.set 4 (.slice io g.outs.length ko)
          have o9 := hOY.cell 4 _ rfl
          have g9 := hOY.frozen 4
          have hRZ := hRY.turn TX (by decide)
          have HKZ := Lib.hid (HKY.out.turn TX (by decide))
          have HAZ := Lib.hid (hAY.turn TX (by decide) (by decide))
          have HEZ := Lib.hid (hEY.turn TX (by decide) (by decide))
          have HIZ := Lib.hid (hIY.turn TX (by decide))
          have HUZ := Lib.hid (hUY.turn TX (by decide))
          have HRZ := Lib.hid hRZ
          have s0 := BX.cell 0 _ rfl
          have s1 := BX.cell 1 _ rfl
          have s2 := BX.cell 2 _ rfl
          have s3 := BX.cell 3 _ rfl
          have s4 := BX.cell 4 _ rfl
          have z0 := hRZ.cell 0 _ rfl
          have z1 := hRZ.cell 1 _ rfl
          have z2 := hRZ.cell 2 _ rfl
          have z3 := hRZ.cell 3 _ rfl
          have z4 := hRZ.cell 4 _ rfl
          have f0 := hRZ.frozen 0
          have f1 := hRZ.frozen 1
          have f2 := hRZ.frozen 2
          have f3 := hRZ.frozen 3
          have f4 := hRZ.frozen 4
          clear T9 hro hlo hRY hOY hAY hEY hIY hUY BX TX hRZ HKX HRX HOX HAX HEX HIX HGX HKY
          go_wp2
          clear o9 g9 s0 s1 s2 s3 s4 z0 z1 z2 z3 z4 f0 f1 f2 f3 f4
          obtain ⟨wz, hwz⟩ : ∃ x, wy.setCell ⟨w.heap.size + 2, 4, none⟩ (.slice io g.outs.length ko) = x := ⟨_, rfl⟩
          rw [hwz] at HKZ HAZ HEZ HIZ HUZ HRZ ⊢
          clear hwz
          refine bodyPost_ret_by (results_cell_row rfl _ _ _ _ _ _ _ rfl (graph_set HRZ.out.1 _ _ _ _ _) Try.underlying26 rfl (by kernel_rfl)) rfl ?_
          have mm := graph_mods wz (w.heap.size + 1) (.string g.name) (.slice (some ⟨ba, 0, none⟩) n ca) (.slice (some ⟨be, 0, none⟩) m cp7) (.slice ii g.ins.length jc) (.slice io g.outs.length ko)
          have T : Turn (ext qx _ 11) (ext qx _ 11) (fun x => x = 9) wz _ := ⟨mm.mono (fun k _ e => by subst e; exact HRZ.out.2), fun _ _ => rfl⟩
          refine ⟨_, rfl, ⟨_, _, _, _, rfl, ?_, ?_, ?_, ?_⟩, HKZ.out.below.trans (mm.below HKZ.out.size (fun k hk e => by omega))⟩
          · have h1 := TailAt.recs (show ∀ a, (actorHd a).length + 1 = 3 from fun _ => rfl) (HAZ.out.turn T (by decide) (by decide))
            rw [HPA.out] at h1
            have h2 := h1.front
            rw [HNA.out] at h2
            exact h2
          · have h1 := TailAt.recs (show ∀ a, (edgeHd a).length + 1 = 5 from fun _ => rfl) (HEZ.out.turn T (by decide) (by decide))
            rw [HPE.out] at h1
            have h2 := h1.front
            rw [HNE.out] at h2
            exact h2
          · exact (HIZ.out.turn T (by decide)).recs
          · exact (HUZ.out.turn T (by decide)).recs
end Go.Proofs.Ytbmbfifempkhgaa

/- The reference's Ints: a list of its own. -/
namespace Go.Proofs.Ytbmbfifempkhgaa
open Go.RowKit

def IntsRet (w : World) (l : List Int) (e : Ending) (w' : World) : Prop := ∃ v, e = .returned v ∧ w'.ownsRow w.heap.size 3 1 v l.length (ivs l) ∧ Below w.heap.size w w'
theorem rints_any {o : Col} {c : Nat} (w : World) (ao : Option Addr) (n cap : Nat) (l : List Int) (h : Ints w o c (.slice ao n cap) l) (hn : l.length ≤ 17600000000000) : Calls Try.prog 23 #[.slice ao n cap] w (IntsRet w l) := by
  obtain ⟨i0, hi, hz0, hz1, hz2⟩ := info_parts info_int
  obtain ⟨hnone, hnews⟩ := h.news
  obtain rfl := h.len
  have HN := Lib.hid hn
  have Hnone := Lib.hid hnone
  have Hnews := Lib.hid hnews
  clear hn hnone hnews h
  go_enter Try.func23, Try.ntmps23
  go_wp2_with (at_builtin; refine stop_here ?_)
  refine go_on ?_
  refine wpList_app rfl _ _ 52 rfl w.heap.size 3 i0 _ 1 8 Try.underlying52 hi hz0 hz1 hz2 rfl (.slice none 0 0) 0 [] rfl (World.ownsRow_nil w w.heap.size 3 1) ao l.length cap (ivs l) rfl (by simp) Hnone.out (fun ad had j u hu => Hnews.out ad had j u hu) (ivs_one l) (by have := HN.out; unfold maxLen; omega) (grow_ok (by have := HN.out; omega)) (Nat.le_refl _) ?_
  intro v' w2 g1 g20 g3 g4
  have g2 : w.grownBy w2 (Value.slice none 0 0).ownBlock := g20
  have hb : Below w.heap.size w w2 := ((Mods.refl (fun _ => False) w).grown g2 (fun k hk hlt => by cases hk)).below (Nat.le_refl _) (fun _ _ h => h)
  simp only [Nat.zero_add, List.nil_append] at g1
  have G1 := Lib.hid g1
  clear g1 g20 g2 g3 g4
  obtain ⟨sv, cv, rfl⟩ := owns_slice G1.out
  go_wp2
  go_ret
  exact ⟨_, rfl, by simpa using G1.out, hb⟩
end Go.Proofs.Ytbmbfifempkhgaa
