/- ActorsPlays, walked. -/
import Derived.Test.YtknmiiajeafjpaaLawAsk2
import Derived.Test.YtknmiiajeafjpaaTwo
import Derived.Test.YtknmiiajeafjpaaInActs2
namespace Go.Proofs.Ytknmiiajeafjpaa
open Go.RowKit


set_option maxRecDepth 100000 in
set_option maxHeartbeats 2000000 in
theorem plays_no (w : World) (t : Int) (ao : Option Addr) (cap : Nat) (ps : List Int) (v : Value) (hg : ¬ goodP t ps) (hl : ps.length ≤ 17600000000000) (h : Has w (.slice ao ps.length cap) (ivs ps)) : Calls Try.prog 9 #[.int .u8 t, .slice ao ps.length cap, v] w fun e w' => e = .returned (.bool true) ∧ Below w.heap.size w w' := by
  have hx := errP_cases2 t
  have HG := Lib.hid hg
  have HL := Lib.hid hl
  have HH := Lib.hid h
  clear hg hl h
  go_enter Try.func9, Try.ntmps9
  go_wp2_with fail
  refine (lent_has HL.out HH.out).mono ?_
  rintro e w0 ⟨g, cp, rfl, hown, hb0⟩
  have hu : Own w0 (ext (fun _ => 0) w.heap.size 7) 7 3 1 (.slice (some ⟨g, 0, none⟩) (ps.length + 4) cp) (ps.length + 4) (ivs (ps ++ marks)) := Own.made _ 7 hown
  have HO := Lib.hid hu.lent.vals.has
  have HLE := Lib.hid (lends_of_owns hown)
  have HH0 := Lib.hid (HH.out.below hb0)
  have HB0 := Lib.hid hb0
  clear hown hb0 hu
  go_wp2_with fail
  refine (New_no HG.out HL.out HO.out).mono ?_
  rintro e w1 ⟨rfl, hb1⟩
  have HH1 := Lib.hid (HH0.out.below hb1)
  replace HLE := Lib.hid (HLE.out.below hb1)
  have HB1 := Lib.hid (HB0.out.trans (hb1.mono HB0.out.size))
  clear hb1
  go_wp2_with fail
  refine (rnew_no w1 t ao _ cap ps HG.out HH1.out).mono ?_
  rintro e w3 ⟨rfl, hb3⟩
  have HH3 := Lib.hid (HH1.out.below hb3)
  replace HLE := Lib.hid (HLE.out.below hb3)
  have HB3 := Lib.hid (HB1.out.trans (hb3.mono HB1.out.size))
  clear hb3
  unfold refZero
  rcases hx with hx | hx
  · rw [hx]
    go_wp2_with fail
    have hbA : Below w.heap.size w (w3.alloc (.cells #[.int .u8 0, .slice none 0 0, .slice none 0 0, .slice none 0 0, .slice none 0 0, .int .i64 0] 48)) := HB3.out.alloc HB3.out.size _
    refine (kept_yes _ ps g cp ao cap HL.out (HLE.out.below (below_alloc w3 _)) (HH3.out.below (below_alloc w3 _))).mono ?_
    rintro e w4 ⟨rfl, m4, rfl⟩
    go_wp2_with fail
    refine (awake_yes _).mono ?_
    rintro e w5 ⟨rfl, hb5⟩
    have hb6 := (below_n hbA m4).trans (hb5.mono hbA.size)
    clear hb5 hbA
    go_wp2
    go_ret
    exact ⟨rfl, hb6⟩
  · rw [hx]
    go_wp2_with fail
    have hbA : Below w.heap.size w (w3.alloc (.cells #[.int .u8 0, .slice none 0 0, .slice none 0 0, .slice none 0 0, .slice none 0 0, .int .i64 0] 48)) := HB3.out.alloc HB3.out.size _
    refine (kept_yes _ ps g cp ao cap HL.out (HLE.out.below (below_alloc w3 _)) (HH3.out.below (below_alloc w3 _))).mono ?_
    rintro e w4 ⟨rfl, m4, rfl⟩
    go_wp2_with fail
    refine (awake_yes _).mono ?_
    rintro e w5 ⟨rfl, hb5⟩
    have hb6 := (below_n hbA m4).trans (hb5.mono hbA.size)
    clear hb5 hbA
    go_wp2
    go_ret
    exact ⟨rfl, hb6⟩

/-- the reference's actor, in its own block -/
def InBlock (w : World) (o : Col) (N : Nat) (t : Int) (ps keep : List Int) (n : Int) : Prop :=
  ∃ a1 c1 a2 c2 a3 c3 a4 c4, Blk w o 99 N 48 #[.int .u8 t, .slice a1 ps.length c1, .slice a2 (insP t ps).length c2, .slice a3 (outsP t ps).length c3, .slice a4 keep.length c4, .int .i64 n] ∧
    RAct w o 5 (.agg #[.int .u8 t, .slice a1 ps.length c1, .slice a2 (insP t ps).length c2, .slice a3 (outsP t ps).length c3, .slice a4 keep.length c4, .int .i64 n]) t ps keep n
theorem InBlock.turn {w w' : World} {o o' : Col} {C : Nat → Prop} {N : Nat} {t : Int} {ps keep : List Int} {n : Int} (h : InBlock w o N t ps keep n) (T : Turn o o' C w w') (h5 : ¬ C 5) (h9 : ¬ C 99) : InBlock w' o' N t ps keep n := by
  obtain ⟨a1, c1, a2, c2, a3, c3, a4, c4, h1, h2⟩ := h
  exact ⟨a1, c1, a2, c2, a3, c3, a4, c4, h1.turn T h9, h2.turn T h5⟩

/-- put back into its block -/
theorem InBlock.put {w : World} {o : Col} {N : Nat} {t : Int} {ps keep : List Int} {n : Int} {cs : Array Value} {a1 a2 a3 a4 : Option Addr} {c1 c2 c3 c4 : Nat} (hB : Blk w o 99 N 48 cs) (hs : ∃ x0 x1 x2 x3 x4 x5, cs = #[x0, x1, x2, x3, x4, x5])
    (hR : RAct w o 5 (.agg #[.int .u8 t, .slice a1 ps.length c1, .slice a2 (insP t ps).length c2, .slice a3 (outsP t ps).length c3, .slice a4 keep.length c4, .int .i64 n]) t ps keep n) :
    InBlock ((((((w.setCell ⟨N, 0, none⟩ (.int .u8 t)).setCell ⟨N, 1, none⟩ (.slice a1 ps.length c1)).setCell ⟨N, 2, none⟩ (.slice a2 (insP t ps).length c2)).setCell ⟨N, 3, none⟩ (.slice a3 (outsP t ps).length c3)).setCell ⟨N, 4, none⟩ (.slice a4 keep.length c4)).setCell ⟨N, 5, none⟩ (.int .i64 n)) o N t ps keep n ∧
      Turn o o (fun x => x = 99) w ((((((w.setCell ⟨N, 0, none⟩ (.int .u8 t)).setCell ⟨N, 1, none⟩ (.slice a1 ps.length c1)).setCell ⟨N, 2, none⟩ (.slice a2 (insP t ps).length c2)).setCell ⟨N, 3, none⟩ (.slice a3 (outsP t ps).length c3)).setCell ⟨N, 4, none⟩ (.slice a4 keep.length c4)).setCell ⟨N, 5, none⟩ (.int .i64 n)) := by
  obtain ⟨x0, x1, x2, x3, x4, x5, rfl⟩ := hs
  have T : Turn o o (fun x => x = 99) w ((((((w.setCell ⟨N, 0, none⟩ (.int .u8 t)).setCell ⟨N, 1, none⟩ (.slice a1 ps.length c1)).setCell ⟨N, 2, none⟩ (.slice a2 (insP t ps).length c2)).setCell ⟨N, 3, none⟩ (.slice a3 (outsP t ps).length c3)).setCell ⟨N, 4, none⟩ (.slice a4 keep.length c4)).setCell ⟨N, 5, none⟩ (.int .i64 n)) := ⟨mods6 (Mods.refl _ _) hB.2, fun _ _ => rfl⟩
  have hK := block_setCell (block_setCell (block_setCell (block_setCell (block_setCell (block_setCell hB.1 0 (.int .u8 t)) 1 (.slice a1 ps.length c1)) 2 (.slice a2 (insP t ps).length c2)) 3 (.slice a3 (outsP t ps).length c3)) 4 (.slice a4 keep.length c4)) 5 (.int .i64 n)
  exact ⟨⟨a1, c1, a2, c2, a3, c3, a4, c4, ⟨hK, hB.2⟩, hR.turn T (by decide)⟩, T⟩


set_option maxRecDepth 100000 in
set_option maxHeartbeats 4000000 in
theorem plays_yes (w : World) (t : Int) (ao : Option Addr) (cap : Nat) (ps : List Int) (v : Value) (os : List (Int × List (List Int))) (hg : goodP t ps) (hf : ∀ x ∈ ps, Fits x) (hl : ps.length ≤ 17592186044000) (h : Has w (.slice ao ps.length cap) (ivs ps)) (hos : HasActs w v os) (hn : os.length ≤ 17600000000000)
    (hs : ∀ k, k < os.length → ((os[k]?.getD (0, [])).2.length ≤ 5864062014700 ∧ ∀ l ∈ (os[k]?.getD (0, [])).2, l.length ≤ 17592186044000)) : Calls Try.prog 9 #[.int .u8 t, .slice ao ps.length cap, v] w fun e w' => e = .returned (.bool true) ∧ Below w.heap.size w w' := by
  have HG := Lib.hid hg
  have HF := Lib.hid hf
  have HL := Lib.hid hl
  have HH := Lib.hid h
  have HOS := Lib.hid hos
  have HN := Lib.hid hn
  have HSZ := Lib.hid hs
  obtain ⟨oao, ocp, rfl⟩ : ∃ ao cap, v = .slice ao os.length cap := by
    rcases hos with ⟨rfl, ao, cap, rfl⟩ | ⟨_, b, off, cap, rfl, _⟩
    · exact ⟨_, _, rfl⟩
    · exact ⟨_, _, rfl⟩
  clear hg hf hl h hos hn hs
  go_enter Try.func9, Try.ntmps9
  go_wp2_with fail
  refine (lent_has (by have := HL.out; omega) HH.out).mono ?_
  rintro e w0 ⟨g, cp, rfl, hown, hb0⟩
  have hu : Own w0 (ext (fun _ => 0) w.heap.size 7) 7 3 1 (.slice (some ⟨g, 0, none⟩) (ps.length + 4) cp) (ps.length + 4) (ivs (ps ++ marks)) := Own.made _ 7 hown
  have K0 := (Kept.start w).of_below 7 hb0
  have HU0 := Lib.hid hu
  have HH0 := Lib.hid (HH.out.below hb0)
  clear hown hb0 hu
  go_wp2_with fail
  refine (New_act (ext (fun _ => 0) w.heap.size 7) 1 2 (by decide) HG.out HF.out HU0.out.lent.vals).mono ?_
  rintro e w1 ⟨bb, o1, rfl, T1, A1⟩
  have HK1 := Lib.hid (K0.turn T1 (fun h => h))
  have HA1 := Lib.hid A1
  have HU1 := Lib.hid (HU0.out.turn T1 (fun h => h))
  have HH1 := Lib.hid (HH0.out.below (T1.below (Nat.le_refl _) (fun _ _ h => h)))
  clear T1 A1 K0 HU0 HH0
  go_wp2_with fail
  refine (rnew_ok w1 t ao _ cap ps HG.out HH1.out).mono ?_
  rintro e w3 ⟨vp, vi, vo, vk, rfl, p1, p2, p3, p4, hb3⟩
  have hR3 : RAct w3 (ext o1 w1.heap.size 5) 5 _ t ps (keep0 t ps) 0 := ⟨vp, vi, vo, vk, rfl, owns_vals p1, owns_vals p2, owns_vals p3, owns_vals p4⟩
  obtain ⟨a1, c1, rfl⟩ := owns_slice p1
  obtain ⟨a2, c2, rfl⟩ := owns_slice p2
  obtain ⟨a3, c3, rfl⟩ := owns_slice p3
  obtain ⟨a4, c4, rfl⟩ := owns_slice p4
  clear p1 p2 p3 p4
  have T3 := Turn.of_below o1 5 hb3
  have T4 := Turn.of_below (ext o1 w1.heap.size 5) 99 (below_alloc w3 (.cells #[.int .u8 t, .slice a1 ps.length c1, .slice a2 (insP t ps).length c2, .slice a3 (outsP t ps).length c3, .slice a4 (keep0 t ps).length c4, .int .i64 0] 48))
  have T34 := T3.trans T4 (fun _ h => h)
  have HK4 := Lib.hid (HK1.out.turn T34 (fun h => h))
  have HA4 := Lib.hid (HA1.out.turn T34 (fun h => h) (fun h => h))
  have HU4 := Lib.hid (HU1.out.turn T34 (fun h => h))
  have HH4 := Lib.hid (HH1.out.below (T34.below (Nat.le_refl _) (fun _ _ h => h)))
  have hM4 : InBlock _ (ext (ext o1 w1.heap.size 5) w3.heap.size 99) w3.heap.size t ps (keep0 t ps) 0 := ⟨a1, c1, a2, c2, a3, c3, a4, c4, blk_new (w := w3) _ 48 rfl (ext_new (Nat.le_refl _)), hR3.turn T4 (fun h => h)⟩
  have HM4 := Lib.hid hM4
  clear hR3 T3 T4 T34 hb3 HK1 HA1 HU1 HH1 hM4
  go_wp2_with fail
  refine (kept_yes _ ps g cp ao cap (by have := HL.out; omega) (lends_of_owns HU4.out.1) HH4.out).mono ?_
  rintro e w5 ⟨rfl, m5, rfl⟩
  have HK5 := Lib.hid (HK4.out.drewN m5)
  have HA5 := Lib.hid (HA4.out.drewN m5)
  have HU5 := Lib.hid (HU4.out.drewN m5)
  have HM5 := Lib.hid (HM4.out.turn (Turn.of_quiet _ ⟨m5, rfl⟩) (fun h => h) (fun h => h))
  clear HK4 HA4 HU4 HM4 HH4
  obtain ⟨N, hN⟩ : ∃ N, w3.heap.size = N := ⟨_, rfl⟩
  rw [hN] at HM5 HK5 HA5 HU5
  obtain ⟨W, hW⟩ : ∃ W, (w3.alloc (.cells #[.int .u8 t, .slice a1 ps.length c1, .slice a2 (insP t ps).length c2, .slice a3 (outsP t ps).length c3, .slice a4 (keep0 t ps).length c4, .int .i64 0] 48)).drewN m5 = W := ⟨_, rfl⟩
  rw [hW] at HM5 HK5 HA5 HU5 ⊢
  obtain ⟨o5, ho5⟩ : ∃ o5, ext (ext o1 w1.heap.size 5) N 99 = o5 := ⟨_, rfl⟩
  rw [ho5] at HM5 HK5 HA5 HU5
  rw [hN]
  clear hN hW ho5
  have T6 := Turn.of_below o5 7 (below_alloc W (.cells #[.slice (some ⟨g, 0, none⟩) ps.length cp] 22))
  have hO := outs_lits (w := W) (o := ext o5 W.heap.size 7) (c := 7) (n := W.heap.size) (vs := [.slice (some ⟨g, 0, none⟩) ps.length cp]) (xss := [ps]) rfl rfl (ext_new (Nat.le_refl _)) (fun k hk => by
    obtain rfl : k = 0 := by simpa using hk
    exact HU5.out.lent.recol (fun j hj => (ext_old (HU5.out.lent.1.lt j hj).2).trans (HU5.out.lent.2 j hj))) (fun i j B hij hj => by simp at hj; omega) (by simp)
  have HO := Lib.hid hO
  have HK6 := Lib.hid (HK5.out.turn T6 (fun h => h))
  have HA6 := Lib.hid (HA5.out.turn T6 (fun h => h) (fun h => h))
  have HM6 := Lib.hid (HM5.out.turn T6 (fun h => h) (fun h => h))
  clear hO T6 HK5 HA5 HM5 HU5
  go_wp2_with fail
  refine (apart_yes HO.out (by simp) (fun l hl => by rw [List.mem_singleton.1 hl]; have := HL.out; omega)).mono ?_
  rintro e w7 ⟨rfl, hm7⟩
  have T7 : Turn (ext o5 W.heap.size 7) (ext (ext o5 W.heap.size 7) _ 8) (fun x => x = 7) _ w7 := Turn.of_mods _ 8 hm7 (fun k _ h => h)
  have HK7 := Lib.hid (HK6.out.turn T7 (by decide))
  have HA7 := Lib.hid (HA6.out.turn T7 (by decide) (by decide))
  have HM7 := Lib.hid (HM6.out.turn T7 (by decide) (by decide))
  clear hm7 T7 HO HK6 HA6 HM6
  generalize ext (ext o5 W.heap.size 7) (W.alloc (.cells #[.slice (some ⟨g, 0, none⟩) ps.length cp] 22)).heap.size 8 = o7 at *
  go_wp2_with fail
  go_loopw [13, 14] (fun i _ wr => ∃ (k : Nat) (keep : List Int) (m : Int) (q : Col), k ≤ os.length ∧ i = .int .i64 k ∧ 0 ≤ m ∧ m ≤ k ∧ Kept w.heap.size q w wr ∧ Act wr q 1 2 bb t ps keep m ∧ InBlock wr q N t ps keep m) (fun i _ _ => os.length - (intOf i).toNat)
  case atStart => exact ⟨0, keep0 t ps, 0, o7, Nat.zero_le _, rfl, Int.le_refl _, Int.le_refl _, HK7.out, HA7.out, HM7.out⟩
  case round =>
    clear HK7 HA7 HM7
    obtain ⟨k, keep, m, q, hk, rfl, hm0, hm, K, A, M⟩ := hrel
    have HK := Lib.hid K
    have HA := Lib.hid A
    obtain ⟨e1, f1, e2, f2, e3, f3, e4, f4, hM, hR⟩ := M
    have HM := Lib.hid hM
    have HR := Lib.hid hR
    clear K A hM hR
    have s0 := HM.out.cell 0 _ rfl
    have s1 := HM.out.cell 1 _ rfl
    have s2 := HM.out.cell 2 _ rfl
    have s3 := HM.out.cell 3 _ rfl
    have s4 := HM.out.cell 4 _ rfl
    have s5 := HM.out.cell 5 _ rfl
    by_cases hlt : k < os.length
    · have hlti : (k : Int) < os.length := by omega
      have hll := HN.out
      rcases HOS.out with ⟨rfl, _⟩ | ⟨_, b0, off, cp0, e0, _, hops⟩
      · simp at hlt
      obtain ⟨hask, xv, hxv, hll0, hfx⟩ := hops k hlt
      have hsz := HSZ.out k hlt
      cases e0
      generalize (os[k]?.getD (0, [])).1 = ask at *
      generalize (os[k]?.getD (0, [])).2 = xss at *
      have ha1 := cell_later HK.out.below hask
      have hx1 := cell_later HK.out.below hxv
      obtain ⟨xa, xc, rfl⟩ := hll0.slice
      have HLL0 := Lib.hid hll0
      have HFX := Lib.hid hfx
      have HS := Lib.hid hsz
      have fm : Fits (m + 1) := by unfold Fits; omega
      have HFM := Lib.hid fm
      have HXV := Lib.hid hxv
      have HAV := Lib.hid hask
      clear hask hxv hll0 hfx hops hsz fm
      by_cases h0 : ask = 0
      · subst h0
        go_wp2_with fail
        refine wp_region_mid (fun w' => Six w' N (.int .u8 t) (.slice e1 ps.length f1) (.slice e2 (insP t ps).length f2) (.slice e3 (outsP t ps).length f3) (.slice e4 keep.length f4) (.int .i64 m) ∧ w'.cell? ⟨b0, off + k * 2 + 1, none⟩ = some (.slice xa xss.length xc)) [0, 1, 2, 3, 4, 5, 6] 7 [8, 9, 10] [7] 2 (by kernel_rfl) (by kernel_rfl) rfl ⟨⟨s0, s1, s2, s3, s4, s5⟩, hx1⟩ ?_
        intro Q' hQ'
        simp only [pickOps, List.flatMap_cons, List.flatMap_nil, List.drop_succ_cons, List.drop_zero, List.take_succ_cons, List.take_zero, List.cons_append, List.nil_append, List.append_nil]
        repeat (first
          | (refine wpReads_skip (by rfl) ?_; (try simp only [Act.put, List.setIfInBounds_toArray, List.set_cons_zero, List.set_cons_succ]))
          | (refine wpReads_cons ?_ (by rfl) (by rfl) ?_ ?_; rotate_left; (intro wz hz; (try dsimp only at hz); go_simp; try with_reducible rfl); (try simp only [Act.put, List.setIfInBounds_toArray, List.set_cons_zero, List.set_cons_succ]))
          | (refine wpReads_any ?_ (by rfl) ?_ ?_; rotate_left; (intro wz; go_simp; try with_reducible rfl); (try simp only [Act.put, List.setIfInBounds_toArray, List.set_cons_zero, List.set_cons_succ])))
        refine wpReads_nil ?_
        go_wp2_with fail
        have TD := Turn.of_quiet q (w := wr) (w' := wr.drew) ⟨1, rfl⟩
        refine (lawfire_any (HA.out.turn TD (fun h => h) (fun h => h)) (HR.out.turn TD (fun h => h)) (by decide) (by decide) (by decide) (by decide) (by decide) (by decide) (HK.out.turn TD (fun h => h)) HLL0.out HFX.out HFM.out HS.out.1 HS.out.2).mono ?_
        rintro e w8 ⟨v8, o8, rfl, T8, hA8, hR8⟩
        have hR8' := hR8
        obtain ⟨pp, pi, po, pk, rfl, y1, y2, y3, y4⟩ := hR8'
        obtain ⟨pa1, pc1, rfl⟩ := y1.slice
        obtain ⟨pa2, pc2, rfl⟩ := y2.slice
        obtain ⟨pa3, pc3, rfl⟩ := y3.slice
        obtain ⟨pa4, pc4, rfl⟩ := y4.slice
        clear y1 y2 y3 y4
        have HK8 := Lib.hid ((HK.out.turn TD (fun h => h)).turn T8 (by decide))
        have hB8 := (HM.out.turn TD (fun h => h)).turn T8 (by decide)
        have HA8 := Lib.hid hA8
        have HP8 := Lib.hid (InBlock.put hB8 ⟨_, _, _, _, _, _, rfl⟩ hR8)
        have hx8 : w8.cell? ⟨b0, off + k * 2 + 1, none⟩ = some (.slice xa xss.length xc) := cell_later HK8.out.below HXV.out
        have z0 := hB8.cell 0 _ rfl
        have z1 := hB8.cell 1 _ rfl
        have z2 := hB8.cell 2 _ rfl
        have z3 := hB8.cell 3 _ rfl
        have z4 := hB8.cell 4 _ rfl
        have z5 := hB8.cell 5 _ rfl
        have y0 := hB8.frozen 0
        have y1 := hB8.frozen 1
        have y2 := hB8.frozen 2
        have y3 := hB8.frozen 3
        have y4 := hB8.frozen 4
        have y5 := hB8.frozen 5
        have HN8 := Lib.hid (shot_n t ps keep m xss)
        clear TD T8 hA8 hR8 hB8 HK HA HM HR s0 s1 s2 s3 s4 s5
        go_wp2
        refine ⟨⟨⟨z0, z1, z2, z3, z4, z5⟩, hx8⟩, ?_⟩
        repeat (first
          | (refine wpReads_skip (by rfl) ?_; (try simp only [Act.put, List.setIfInBounds_toArray, List.set_cons_zero, List.set_cons_succ]))
          | (refine wpReads_cons ?_ (by rfl) (by rfl) ?_ ?_; rotate_left; (intro wz hz; (try dsimp only at hz); go_simp; try with_reducible rfl); (try simp only [Act.put, List.setIfInBounds_toArray, List.set_cons_zero, List.set_cons_succ]))
          | (refine wpReads_any ?_ (by rfl) ?_ ?_; rotate_left; (intro wz; go_simp; try with_reducible rfl); (try simp only [Act.put, List.setIfInBounds_toArray, List.set_cons_zero, List.set_cons_succ])))
        refine wpReads_nil ?_
        refine wpAnyT_list (ks := [11, 12]) (fun _ _ hx h => ⟨h.1.ext hx, hx.cell h.2⟩) (by kernel_rfl) ?_
        simp only [pickOps, List.flatMap_cons, List.flatMap_nil, List.drop_succ_cons, List.drop_zero, List.take_succ_cons, List.take_zero, List.cons_append, List.nil_append, List.append_nil]
        go_wp2
        go_roundw
        case rel =>
          obtain ⟨P1, P2⟩ := HP8.out
          have hnn := HN8.out
          exact ⟨k + 1, _, _, o8, by omega, by go_num, by omega, by omega, HK8.out.turn P2 (by decide), HA8.out.turn P2 (by decide) (by decide), P1⟩
        case measure => simp [intOf]; omega
      · have hb0 : (ask == 0) = false := beq_eq_false_iff_ne.2 h0
        go_wp2_with fail
        refine wp_region_rest (fun w' => Six w' N (.int .u8 t) (.slice e1 ps.length f1) (.slice e2 (insP t ps).length f2) (.slice e3 (outsP t ps).length f3) (.slice e4 keep.length f4) (.int .i64 m) ∧ w'.cell? ⟨b0, off + k * 2, none⟩ = some (.int .i64 ask)) [0, 1, 2, 3, 4, 5, 6] [7] 2 (by kernel_rfl) (by kernel_rfl) rfl ⟨⟨s0, s1, s2, s3, s4, s5⟩, ha1⟩ ?_
        intro Q' hQ'
        simp only [pickOps, List.flatMap_cons, List.flatMap_nil, List.drop_succ_cons, List.drop_zero, List.take_succ_cons, List.take_zero, List.cons_append, List.nil_append, List.append_nil]
        repeat (first
          | (refine wpReads_skip (by rfl) ?_; (try simp only [Act.put, List.setIfInBounds_toArray, List.set_cons_zero, List.set_cons_succ]))
          | (refine wpReads_cons ?_ (by rfl) (by rfl) ?_ ?_; rotate_left; (intro wz hz; (try dsimp only at hz); go_simp; try with_reducible rfl); (try simp only [Act.put, List.setIfInBounds_toArray, List.set_cons_zero, List.set_cons_succ]))
          | (refine wpReads_any ?_ (by rfl) ?_ ?_; rotate_left; (intro wz; go_simp; try with_reducible rfl); (try simp only [Act.put, List.setIfInBounds_toArray, List.set_cons_zero, List.set_cons_succ])))
        refine wpReads_nil ?_
        refine wpAnyT_one (i := 7) (by kernel_rfl) ?_
        simp only [pickOps, List.flatMap_cons, List.flatMap_nil, List.drop_succ_cons, List.drop_zero, List.take_succ_cons, List.take_zero, List.cons_append, List.nil_append, List.append_nil]
        go_wp2_with fail
        have TD := Turn.of_quiet q (w := wr) (w' := wr.drew) ⟨1, rfl⟩
        refine (ask_any (HA.out.turn TD (fun h => h) (fun h => h)) (HR.out.turn TD (fun h => h))).mono ?_
        rintro e w8 ⟨rfl, hb8⟩
        have T8 := TD.trans (Turn.of_below q 99 hb8) (fun _ h => h)
        have HK8 := Lib.hid (HK.out.turn T8 (fun h => h))
        have HA8 := Lib.hid (HA.out.turn T8 (fun h => h) (fun h => h))
        have HM8 := Lib.hid (HM.out.turn T8 (fun h => h))
        have HR8 := Lib.hid (HR.out.turn T8 (fun h => h))
        have hx8 : w8.cell? ⟨b0, off + k * 2, none⟩ = some (.int .i64 ask) := cell_later HK8.out.below HAV.out
        clear TD T8 hb8 HK HA HM HR s0 s1 s2 s3 s4 s5
        go_wp2
        refine ⟨by intros; exact ⟨⟨HM8.out.cell 0 _ rfl, HM8.out.cell 1 _ rfl, HM8.out.cell 2 _ rfl, HM8.out.cell 3 _ rfl, HM8.out.cell 4 _ rfl, HM8.out.cell 5 _ rfl⟩, hx8⟩, ?_⟩
        refine wpAnyT_list (ks := [8]) (fun _ _ hx h => ⟨h.1.ext hx, hx.cell h.2⟩) (by kernel_rfl) ?_
        simp only [pickOps, List.flatMap_cons, List.flatMap_nil, List.drop_succ_cons, List.drop_zero, List.take_succ_cons, List.take_zero, List.cons_append, List.nil_append, List.append_nil]
        go_wp2
        go_roundw
        case rel => exact ⟨k + 1, keep, m, _, by omega, by go_num, hm0, by omega, HK8.out, HA8.out, e1, f1, e2, f2, e3, f3, e4, f4, HM8.out, HR8.out⟩
        case measure => simp [intOf]; omega
    · obtain rfl : k = os.length := by omega
      clear s0 s1 s2 s3 s4 s5
      go_wp2_with fail
      refine (awake_yes _).mono ?_
      rintro e w8 ⟨rfl, hb8⟩
      have T8 := Turn.of_below q 99 hb8
      have HK8 := Lib.hid (HK.out.turn T8 (fun h => h))
      have HA8 := Lib.hid (HA.out.turn T8 (fun h => h) (fun h => h))
      have HM8 := Lib.hid (HM.out.turn T8 (fun h => h))
      have HR8 := Lib.hid (HR.out.turn T8 (fun h => h))
      clear hb8 T8 HK HA HR HM
      have s0 := HM8.out.cell 0 _ rfl
      have s1 := HM8.out.cell 1 _ rfl
      have s2 := HM8.out.cell 2 _ rfl
      have s3 := HM8.out.cell 3 _ rfl
      have s4 := HM8.out.cell 4 _ rfl
      have s5 := HM8.out.cell 5 _ rfl
      go_wp2_with fail
      refine (ask_any HA8.out HR8.out).mono ?_
      rintro e w9 ⟨rfl, hb9⟩
      have T9 := Turn.of_below (ext q wr.heap.size 99) 99 hb9
      have HK9 := Lib.hid (HK8.out.turn T9 (fun h => h))
      have HA9 := Lib.hid (HA8.out.turn T9 (fun h => h) (fun h => h))
      have HM9 := Lib.hid (HM8.out.turn T9 (fun h => h))
      have HR9 := Lib.hid (HR8.out.turn T9 (fun h => h))
      clear hb9 T9 HK8 HA8 HR8 HM8 s0 s1 s2 s3 s4 s5
      have s0 := HM9.out.cell 0 _ rfl
      have s1 := HM9.out.cell 1 _ rfl
      have s2 := HM9.out.cell 2 _ rfl
      have s3 := HM9.out.cell 3 _ rfl
      have s4 := HM9.out.cell 4 _ rfl
      have s5 := HM9.out.cell 5 _ rfl
      go_wp2_with fail
      refine (ask_any HA9.out HR9.out).mono ?_
      rintro e w10 ⟨rfl, hb10⟩
      have hbz := HK9.out.below.trans (hb10.mono HK9.out.size)
      clear hb10 s0 s1 s2 s3 s4 s5
      go_wp2
      go_ret
      exact ⟨rfl, hbz⟩

theorem plays_all (w : World) (t : Int) (v v2 : Value) (ps : List Int) (os : List (Int × List (List Int))) (h : Has w v (ivs ps)) (hf : ∀ x ∈ ps, Fits x) (hl : ps.length ≤ 17592186044000) (hos : HasActs w v2 os)
    (hs : os.length * 32 ≤ 140737488351232 ∧ ∀ k, k < os.length → ((os[k]?.getD (0, [])).2.length * 24 ≤ 140737488351232 ∧ ∀ l ∈ (os[k]?.getD (0, [])).2, l.length * 8 ≤ 140737488351232)) : Calls Try.prog 9 #[.int .u8 t, v, v2] w fun e w' => e = .returned (.bool true) ∧ Below w.heap.size w w' := by
  obtain ⟨ao, cap, rfl⟩ := h.slice
  rw [ivs_len] at h ⊢
  by_cases hg : goodP t ps
  · refine plays_yes w t ao cap ps v2 os hg hf hl h hos (by omega) (fun k hk => ⟨?_, fun l hl => ?_⟩)
    · have := (hs.2 k hk).1; omega
    · have := (hs.2 k hk).2 l hl; omega
  · exact plays_no w t ao cap ps v2 hg (by omega) h
end Go.Proofs.Ytknmiiajeafjpaa
