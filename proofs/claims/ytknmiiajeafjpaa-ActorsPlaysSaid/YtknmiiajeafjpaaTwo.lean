/- ActorsTwo, walked. -/
import Derived.Test.YtknmiiajeafjpaaLawA
import Derived.Test.YtknmiiajeafjpaaRefNew1
import Derived.Test.YtknmiiajeafjpaaInBoth
namespace Go.Proofs.Ytknmiiajeafjpaa
open Go.RowKit

theorem errP_cases2 (t : Int) : errP t = 60 ∨ errP t = 61 := by unfold errP; split <;> simp
theorem shot_n (t : Int) (ps keep : List Int) (n : Int) (xss : List (List Int)) : (shot t ps keep n xss).n = n ∨ (shot t ps keep n xss).n = n + 1 := by
  unfold shot
  split
  · split
    · exact .inr rfl
    · exact .inl rfl
  · exact .inl rfl
theorem owns_vals {w : World} {N : Nat} {o : Col} {c : Nat} {v : Value} {l : List Int} (h : w.ownsRow N 3 1 v l.length (ivs l)) : Ints w (ext o N c) c v l := (Own.made o c h).vals


set_option maxRecDepth 100000 in
set_option maxHeartbeats 2000000 in
theorem two_no {o : Col} {c : Nat} (w : World) (t : Int) (ao : Option Addr) (n cap : Nat) (ps : List Int) (xa ya : Option Addr) (xl xc yl yc : Nat) (hg : ¬ goodP t ps) (hl : ps.length ≤ 17600000000000) (h : Ints w o c (.slice ao n cap) ps) : Calls Try.prog 11 #[.int .u8 t, .slice ao n cap, .agg #[.slice xa xl xc, .slice ya yl yc]] w fun e w' => e = .returned (.bool true) ∧ Below w.heap.size w w' := by
  have hx := errP_cases2 t
  have HG := Lib.hid hg
  have HL := Lib.hid hl
  have HH := Lib.hid (h.has.below (below_alloc w (.cells #[.slice xa xl xc, .slice ya yl yc] 63)))
  have HB0 := Lib.hid (below_alloc w (.cells #[.slice xa xl xc, .slice ya yl yc] 63))
  clear hg hl h
  go_enter Try.func11, Try.ntmps11
  go_wp2_with fail
  refine (New_no HG.out HL.out HH.out).mono ?_
  rintro e w1 ⟨rfl, hb1⟩
  have HH1 := Lib.hid (HH.out.below hb1)
  have HB1 := Lib.hid (HB0.out.trans (hb1.mono HB0.out.size))
  clear hb1
  go_wp2_with fail
  refine (New_no HG.out HL.out HH1.out).mono ?_
  rintro e w2 ⟨rfl, hb2⟩
  have HH2 := Lib.hid (HH1.out.below hb2)
  have HB2 := Lib.hid (HB1.out.trans (hb2.mono HB1.out.size))
  clear hb2
  go_wp2_with fail
  refine (rnew_no w2 t ao n cap ps HG.out HH2.out).mono ?_
  rintro e w3 ⟨rfl, hb3⟩
  have HB3 := Lib.hid (HB2.out.trans (hb3.mono HB2.out.size))
  clear hb3
  unfold refZero
  rcases hx with hx | hx
  · rw [hx]
    go_wp2_with fail
    have hbA : Below w.heap.size w (w3.alloc (.cells #[.int .u8 0, .slice none 0 0, .slice none 0 0, .slice none 0 0, .slice none 0 0, .int .i64 0] 48)) := HB3.out.alloc HB3.out.size _
    refine (awake_yes _).mono ?_
    rintro e w4 ⟨rfl, hb4⟩
    have hb5 := hbA.trans (hb4.mono hbA.size)
    clear hb4 hbA
    go_wp2
    go_ret
    exact ⟨rfl, hb5⟩
  · rw [hx]
    go_wp2_with fail
    have hbA : Below w.heap.size w (w3.alloc (.cells #[.int .u8 0, .slice none 0 0, .slice none 0 0, .slice none 0 0, .slice none 0 0, .int .i64 0] 48)) := HB3.out.alloc HB3.out.size _
    refine (awake_yes _).mono ?_
    rintro e w4 ⟨rfl, hb4⟩
    have hb5 := hbA.trans (hb4.mono hbA.size)
    clear hb4 hbA
    go_wp2
    go_ret
    exact ⟨rfl, hb5⟩


set_option maxRecDepth 100000 in
set_option maxHeartbeats 4000000 in
theorem two_yes {o : Col} {c : Nat} (w : World) (t : Int) (ao : Option Addr) (n cap : Nat) (ps : List Int) (xa ya : Option Addr) (xl xc yl yc : Nat) (xss yss : List (List Int)) (hg : goodP t ps) (hf : ∀ x ∈ ps, Fits x) (h : Ints w o c (.slice ao n cap) ps)
    (hx : LL w (.slice xa xl xc) xss) (hfx : ∀ l ∈ xss, ∀ x ∈ l, Fits x) (hlx : xss.length ≤ 5864062014700) (hrx : ∀ l ∈ xss, l.length ≤ 17592186044000) (hy : LL w (.slice ya yl yc) yss) (hfy : ∀ l ∈ yss, ∀ x ∈ l, Fits x) (hly : yss.length ≤ 5864062014700) (hry : ∀ l ∈ yss, l.length ≤ 17592186044000) :
    Calls Try.prog 11 #[.int .u8 t, .slice ao n cap, .agg #[.slice xa xl xc, .slice ya yl yc]] w fun e w' => e = .returned (.bool true) ∧ Below w.heap.size w w' := by
  have HG := Lib.hid hg
  have HF := Lib.hid hf
  have hb0 := below_alloc w (.cells #[.slice xa xl xc, .slice ya yl yc] 63)
  have HH := Lib.hid (h.has.below hb0)
  have HX := Lib.hid hx
  have HY := Lib.hid hy
  have HFX := Lib.hid hfx
  have HFY := Lib.hid hfy
  have HRX := Lib.hid hrx
  have HRY := Lib.hid hry
  have HLX := Lib.hid hlx
  have HLY := Lib.hid hly
  have HK0 := Lib.hid ((Kept.start w).of_below 0 hb0)
  clear hg hf h hx hy hfx hfy hrx hry hlx hly hb0
  go_enter Try.func11, Try.ntmps11
  go_wp2_with fail
  refine (New_act (ext (fun _ => 0) w.heap.size 0) 1 2 (by decide) HG.out HF.out HH.out).mono ?_
  rintro e w1 ⟨bb, o1, rfl, T1, A1⟩
  have K1 := HK0.out.turn T1 (fun h => h)
  have HH1 := Lib.hid (HH.out.below (T1.below (Nat.le_refl _) (fun _ _ h => h)))
  go_wp2_with fail
  refine (New_act o1 3 4 (by decide) HG.out HF.out HH1.out).mono ?_
  rintro e w2 ⟨bc, o2, rfl, T2, A2⟩
  have HK2 := Lib.hid (K1.turn T2 (fun h => h))
  have HB2 := Lib.hid (A1.turn T2 (fun h => h) (fun h => h))
  have HC2 := Lib.hid A2
  have HH2 := Lib.hid (HH1.out.below (T2.below (Nat.le_refl _) (fun _ _ h => h)))
  clear T1 T2 K1 A1 A2 HH1 HH
  go_wp2_with fail
  refine (rnew_ok w2 t ao n cap ps HG.out HH2.out).mono ?_
  rintro e w3 ⟨vp, vi, vo, vk, rfl, p1, p2, p3, p4, hb3⟩
  have hR3 : RAct w3 (ext o2 w2.heap.size 5) 5 _ t ps (keep0 t ps) 0 := ⟨vp, vi, vo, vk, rfl, owns_vals p1, owns_vals p2, owns_vals p3, owns_vals p4⟩
  obtain ⟨a1, c1, rfl⟩ := owns_slice p1
  obtain ⟨a2, c2, rfl⟩ := owns_slice p2
  obtain ⟨a3, c3, rfl⟩ := owns_slice p3
  obtain ⟨a4, c4, rfl⟩ := owns_slice p4
  clear p1 p2 p3 p4
  have T3 := Turn.of_below o2 5 hb3
  have T4 := Turn.of_below (ext o2 w2.heap.size 5) 99 (below_alloc w3 (.cells #[.int .u8 t, .slice a1 ps.length c1, .slice a2 (insP t ps).length c2, .slice a3 (outsP t ps).length c3, .slice a4 (keep0 t ps).length c4, .int .i64 0] 48))
  have T34 := T3.trans T4 (fun _ h => h)
  have HK4 := Lib.hid (HK2.out.turn T34 (fun h => h))
  have HB4 := Lib.hid (HB2.out.turn T34 (fun h => h) (fun h => h))
  have HC4 := Lib.hid (HC2.out.turn T34 (fun h => h) (fun h => h))
  have HR4 := Lib.hid (hR3.turn T4 (fun h => h))
  have HN4 := Lib.hid (blk_new (w := w3) (o := ext (ext o2 w2.heap.size 5) w3.heap.size 99) (c := 99) #[.int .u8 t, .slice a1 ps.length c1, .slice a2 (insP t ps).length c2, .slice a3 (outsP t ps).length c3, .slice a4 (keep0 t ps).length c4, .int .i64 0] 48 rfl (ext_new (Nat.le_refl _)))
  clear hR3 T3 T4 T34 hb3 HK2 HB2 HC2 HH2
  go_wp2_with fail
  refine (lawfire_any HB4.out HR4.out (by decide) (by decide) (by decide) (by decide) (by decide) (by decide) HK4.out HX.out HFX.out (by unfold Fits; omega) HLX.out HRX.out).mono ?_
  rintro e w5 ⟨v5, o5, rfl, T5, hB5, hR5⟩
  have hRx := hR5
  obtain ⟨pp, pi, po, pk, rfl, y1, y2, y3, y4⟩ := hRx
  obtain ⟨pa1, pc1, rfl⟩ := y1.slice
  obtain ⟨pa2, pc2, rfl⟩ := y2.slice
  obtain ⟨pa3, pc3, rfl⟩ := y3.slice
  obtain ⟨pa4, pc4, rfl⟩ := y4.slice
  clear y1 y2 y3 y4
  have TA := Turn.of_below o5 99 (below_alloc w5 (.cells #[.int .u8 t, .slice pa1 ps.length pc1, .slice pa2 (insP t ps).length pc2, .slice pa3 (outsP t ps).length pc3, .slice pa4 (shot t ps (keep0 t ps) 0 xss).keep.length pc4, .int .i64 (shot t ps (keep0 t ps) 0 xss).n] 48))
  have HN5 := Lib.hid ((HN4.out.turn T5 (by decide)).turn TA (fun h => h))
  have HM5 := Lib.hid (blk_new (w := w5) (o := ext o5 w5.heap.size 99) (c := 99) #[.int .u8 t, .slice pa1 ps.length pc1, .slice pa2 (insP t ps).length pc2, .slice pa3 (outsP t ps).length pc3, .slice pa4 (shot t ps (keep0 t ps) 0 xss).keep.length pc4, .int .i64 (shot t ps (keep0 t ps) 0 xss).n] 48 rfl (ext_new (Nat.le_refl _)))
  have HB5 := Lib.hid (hB5.turn TA (fun h => h) (fun h => h))
  have HC5 := Lib.hid ((HC4.out.turn T5 (by decide) (by decide)).turn TA (fun h => h) (fun h => h))
  have HR5 := Lib.hid ((HR4.out.turn T5 (by decide)).turn TA (fun h => h))
  have HS5 := Lib.hid (hR5.turn TA (fun h => h))
  have HK5 := Lib.hid ((HK4.out.turn T5 (by decide)).turn TA (fun h => h))
  clear hB5 hR5 T5 TA HN4 HB4 HC4 HR4 HK4
  have s0 := HN5.out.cell 0 _ rfl
  have s1 := HN5.out.cell 1 _ rfl
  have s2 := HN5.out.cell 2 _ rfl
  have s3 := HN5.out.cell 3 _ rfl
  have s4 := HN5.out.cell 4 _ rfl
  have s5 := HN5.out.cell 5 _ rfl
  go_wp2_with fail
  refine (lawfire_any HC5.out HR5.out (by decide) (by decide) (by decide) (by decide) (by decide) (by decide) HK5.out HY.out HFY.out (by unfold Fits; omega) HLY.out HRY.out).mono ?_
  rintro e w6 ⟨v6, o6, rfl, T6, hC6, hR6⟩
  have hRx := hR6
  obtain ⟨qp, qi, qo, qk, rfl, y1, y2, y3, y4⟩ := hRx
  obtain ⟨qa1, qc1, rfl⟩ := y1.slice
  obtain ⟨qa2, qc2, rfl⟩ := y2.slice
  obtain ⟨qa3, qc3, rfl⟩ := y3.slice
  obtain ⟨qa4, qc4, rfl⟩ := y4.slice
  clear y1 y2 y3 y4
  have TA := Turn.of_below o6 99 (below_alloc w6 (.cells #[.int .u8 t, .slice qa1 ps.length qc1, .slice qa2 (insP t ps).length qc2, .slice qa3 (outsP t ps).length qc3, .slice qa4 (shot t ps (keep0 t ps) 0 yss).keep.length qc4, .int .i64 (shot t ps (keep0 t ps) 0 yss).n] 48))
  clear s0 s1 s2 s3 s4 s5
  have HM6 := Lib.hid ((HM5.out.turn T6 (by decide)).turn TA (fun h => h))
  have HQ6 := Lib.hid (blk_new (w := w6) (o := ext o6 w6.heap.size 99) (c := 99) #[.int .u8 t, .slice qa1 ps.length qc1, .slice qa2 (insP t ps).length qc2, .slice qa3 (outsP t ps).length qc3, .slice qa4 (shot t ps (keep0 t ps) 0 yss).keep.length qc4, .int .i64 (shot t ps (keep0 t ps) 0 yss).n] 48 rfl (ext_new (Nat.le_refl _)))
  have HB6 := Lib.hid ((HB5.out.turn T6 (by decide) (by decide)).turn TA (fun h => h) (fun h => h))
  have HC6 := Lib.hid (hC6.turn TA (fun h => h) (fun h => h))
  have HS6 := Lib.hid ((HS5.out.turn T6 (by decide)).turn TA (fun h => h))
  have HU6 := Lib.hid (hR6.turn TA (fun h => h))
  have HK6 := Lib.hid ((HK5.out.turn T6 (by decide)).turn TA (fun h => h))
  clear hC6 hR6 T6 TA HN5 HM5 HB5 HC5 HR5 HS5 HK5
  have s0 := HM6.out.cell 0 _ rfl
  have s1 := HM6.out.cell 1 _ rfl
  have s2 := HM6.out.cell 2 _ rfl
  have s3 := HM6.out.cell 3 _ rfl
  have s4 := HM6.out.cell 4 _ rfl
  have s5 := HM6.out.cell 5 _ rfl
  have hfn : Fits ((shot t ps (keep0 t ps) 0 xss).n + 1) := by
    have := shot_n t ps (keep0 t ps) 0 xss
    unfold Fits; omega
  have HFN := Lib.hid hfn
  clear hfn
  go_wp2_with fail
  refine (lawfire_any HB6.out HS6.out (by decide) (by decide) (by decide) (by decide) (by decide) (by decide) HK6.out HY.out HFY.out HFN.out HLY.out HRY.out).mono ?_
  rintro e w7 ⟨v7, o7, rfl, T7, hB7, hR7⟩
  have hRx := hR7
  obtain ⟨rp, ri, ro, rk, rfl, y1, y2, y3, y4⟩ := hRx
  obtain ⟨ra1, rc1, rfl⟩ := y1.slice
  obtain ⟨ra2, rc2, rfl⟩ := y2.slice
  obtain ⟨ra3, rc3, rfl⟩ := y3.slice
  obtain ⟨ra4, rc4, rfl⟩ := y4.slice
  clear y1 y2 y3 y4
  have TA := Turn.of_below o7 99 (below_alloc w7 (.cells #[.int .u8 t, .slice ra1 ps.length rc1, .slice ra2 (insP t ps).length rc2, .slice ra3 (outsP t ps).length rc3, .slice ra4 (shot t ps (shot t ps (keep0 t ps) 0 xss).keep (shot t ps (keep0 t ps) 0 xss).n yss).keep.length rc4, .int .i64 (shot t ps (shot t ps (keep0 t ps) 0 xss).keep (shot t ps (keep0 t ps) 0 xss).n yss).n] 48))
  clear s0 s1 s2 s3 s4 s5
  have HQ7 := Lib.hid ((HQ6.out.turn T7 (by decide)).turn TA (fun h => h))
  have HB7 := Lib.hid (hB7.turn TA (fun h => h) (fun h => h))
  have HC7 := Lib.hid ((HC6.out.turn T7 (by decide) (by decide)).turn TA (fun h => h) (fun h => h))
  have HU7 := Lib.hid ((HU6.out.turn T7 (by decide)).turn TA (fun h => h))
  have HV7 := Lib.hid (hR7.turn TA (fun h => h))
  have HK7 := Lib.hid ((HK6.out.turn T7 (by decide)).turn TA (fun h => h))
  clear hB7 hR7 T7 TA HM6 HQ6 HB6 HC6 HS6 HU6 HK6 HFN
  go_wp2_with fail
  refine (ask_else HB7.out HV7.out (by decide) (by decide) (by decide)).mono ?_
  rintro e w8 ⟨rfl, hb8⟩
  have TB := Turn.of_below (ext o7 w7.heap.size 99) 99 hb8
  have HQ8 := Lib.hid (HQ7.out.turn TB (fun h => h))
  have HC8 := Lib.hid (HC7.out.turn TB (fun h => h) (fun h => h))
  have HU8 := Lib.hid (HU7.out.turn TB (fun h => h))
  have HK8 := Lib.hid (HK7.out.turn TB (fun h => h))
  clear hb8 TB HQ7 HB7 HC7 HU7 HV7 HK7
  have s0 := HQ8.out.cell 0 _ rfl
  have s1 := HQ8.out.cell 1 _ rfl
  have s2 := HQ8.out.cell 2 _ rfl
  have s3 := HQ8.out.cell 3 _ rfl
  have s4 := HQ8.out.cell 4 _ rfl
  have s5 := HQ8.out.cell 5 _ rfl
  go_wp2_with fail
  refine (ask_else HC8.out HU8.out (by decide) (by decide) (by decide)).mono ?_
  rintro e w9 ⟨rfl, hb9⟩
  have HB9 := Lib.hid (HK8.out.below.trans (hb9.mono HK8.out.size))
  clear s0 s1 s2 s3 s4 s5 hb9 HQ8 HC8 HU8 HK8
  go_wp2_with fail
  refine (awake_yes _).mono ?_
  rintro e w10 ⟨rfl, hb10⟩
  have hbz := HB9.out.trans (hb10.mono HB9.out.size)
  clear hb10
  go_wp2
  go_ret
  exact ⟨rfl, hbz⟩

theorem two_all {o : Col} {c : Nat} (w : World) (t : Int) (v : Value) (ps : List Int) (x y : Value) (xss yss : List (List Int)) (h : Ints w o c v ps) (hf : ∀ x ∈ ps, Fits x) (hl : ps.length ≤ 17600000000000)
    (hx : LL w x xss) (hy : LL w y yss) (hfx : ∀ l ∈ xss, ∀ x ∈ l, Fits x) (hfy : ∀ l ∈ yss, ∀ x ∈ l, Fits x) (hs : (xss.length * 24 ≤ 140737488351232 ∧ ∀ l ∈ xss, l.length * 8 ≤ 140737488351232) ∧ yss.length * 24 ≤ 140737488351232 ∧ ∀ l ∈ yss, l.length * 8 ≤ 140737488351232) :
    Calls Try.prog 11 #[.int .u8 t, v, .agg #[x, y]] w fun e w' => e = .returned (.bool true) ∧ Below w.heap.size w w' := by
  obtain ⟨ao, cap, rfl⟩ := h.slice
  obtain ⟨xa, xc, rfl⟩ := hx.slice
  obtain ⟨ya, yc, rfl⟩ := hy.slice
  obtain ⟨⟨s1, s2⟩, s3, s4⟩ := hs
  by_cases hg : goodP t ps
  · exact two_yes w t ao _ cap ps xa ya _ xc _ yc xss yss hg hf h hx hfx (by omega) (fun l hl => by have := s2 l hl; omega) hy hfy (by omega) (fun l hl => by have := s4 l hl; omega)
  · exact two_no w t ao _ cap ps xa ya _ xc _ yc hg hl h
end Go.Proofs.Ytknmiiajeafjpaa
