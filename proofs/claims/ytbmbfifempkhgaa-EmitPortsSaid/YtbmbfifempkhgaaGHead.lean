/- The checker's head. -/
import Derived.Test.YtbmbfifempkhgaaGPorts
namespace Go.Proofs.Ytbmbfifempkhgaa
open Go.RowKit


def headL (s : ByteArray) (n1 n2 n3 n4 : Nat) : Int := if !nameP s then 82 else if n1 = 0 then 80 else if 32 < n1 then 81 else if 96 < n2 then 81 else if 16 < n3 then 81 else if 16 < n4 then 81 else 0
theorem headE_eq (g : GGraph) : headE g = headL g.name g.actors.length g.edges.length g.ins.length g.outs.length := rfl


set_option maxRecDepth 100000 in
set_option maxHeartbeats 2000000 in
theorem ghead_any (w : World) (o : Col) (C B : Nat) (X : ChkV) (k : Chk) (a1 a2 a3 a4 : Option Addr) (n1 n2 n3 n4 c1 c2 c3 c4 : Nat) (h1 : X.va = .slice a1 n1 c1) (h2 : X.ve = .slice a2 n2 c2) (h3 : X.vi = .slice a3 n3 c3) (h4 : X.vo = .slice a4 n4 c4) (hs : X.name.size ≤ 4611686018427387904) (h : ChkAt w o C B X k) :
    Calls Try.prog 96 #[.pointer (some ⟨C, 0, none⟩)] w (ChkRet w o C B X (headL X.name n1 n2 n3 n4) k) := by
  obtain ⟨E, hE⟩ : ∃ E, headL X.name n1 n2 n3 n4 = E := ⟨_, rfl⟩
  rw [hE]
  have HE := Lib.hid hE
  have HS := Lib.hid hs
  have hbR := below_alloc w (.cells #[.int .u8 0, .int .i64 0, .int .i64 0] 140)
  have hC0 := h.below 7 hbR
  obtain ⟨q0, q1, q2, q3, q4, _⟩ := hC0.cells
  rw [h1] at q1
  rw [h2] at q2
  rw [h3] at q3
  rw [h4] at q4
  have HT0 := Lib.hid ((Turn.of_below o 7 hbR).mono (D := ChkC) (fun _ h => h.elim))
  have HC0 := Lib.hid hC0
  have HR0 := Lib.hid (spot_new w o 7)
  clear hE hs h hbR hC0 h1 h2 h3 h4
  go_enter Try.func96, Try.ntmps96
  go_wp2_with fail
  obtain ⟨R, hR⟩ : ∃ R, w.heap.size = R := ⟨_, rfl⟩
  have HRE := Lib.hid hR
  have hbG := below_alloc (w.alloc (.cells #[.int .u8 0, .int .i64 0, .int .i64 0] 140)) (.cells #[.string X.name, .slice a1 n1 c1, .slice a2 n2 c2, .slice a3 n3 c3, .slice a4 n4 c4] 26)
  have hG := heap_alloc_new (w.alloc (.cells #[.int .u8 0, .int .i64 0, .int .i64 0] 140)) (.cells #[.string X.name, .slice a1 n1 c1, .slice a2 n2 c2, .slice a3 n3 c3, .slice a4 n4 c4] 26)
  rw [World.size_alloc] at hG
  have HT1 := Lib.hid (HT0.out.trans ((Turn.of_below _ 8 hbG).mono (D := ChkC) (fun _ h => h.elim)) (fun _ h => h))
  have HR1 := Lib.hid (HR0.out.turn (Turn.of_below _ 8 hbG) (fun h => h))
  have HC1 := Lib.hid (HC0.out.below 8 hbG)
  have HG := Lib.hid hG
  rw [hR] at HR1 HT1 HC1 HG
  clear hbG hG q0 q1 q2 q3 q4 HT0 HC0 HR0
  refine (name_any _ X.name HS.out).mono ?_
  rintro e w2 ⟨rfl, hb2⟩
  have HT2 := Lib.hid (HT1.out.trans ((Turn.of_below _ 9 hb2).mono (D := ChkC) (fun _ h => h.elim)) (fun _ h => h))
  have HR2 := Lib.hid (HR1.out.turn (Turn.of_below _ 9 hb2) (fun h => h))
  have HC2 := Lib.hid (HC1.out.below 9 hb2)
  have hG2 := block_mods HG.out (Mods.of_below hb2 (fun _ => False)) (fun h => h)
  have q1 := cells_row w2 _ hG2 1 _ rfl
  have q2 := cells_row w2 _ hG2 2 _ rfl
  have q3 := cells_row w2 _ hG2 3 _ rfl
  have q4 := cells_row w2 _ hG2 4 _ rfl
  clear hb2 hG2 HT1 HR1 HC1 HG
  obtain ⟨np, hnp⟩ : ∃ x, nameP X.name = x := ⟨_, rfl⟩
  rw [hnp, hR]
  have HNP := Lib.hid hnp
  clear hnp hR
  cases np with
  | false =>
    have e : E = 82 := by rw [← HE.out, headL, HNP.out]; simp []
    subst e
    have z0 := HR2.out.cell 0 _ rfl
    have z1 := HR2.out.cell 1 _ rfl
    have z2 := HR2.out.cell 2 _ rfl
    have f0 := HR2.out.frozen 0
    have f1 := HR2.out.frozen 1
    have f2 := HR2.out.frozen 2
    go_wp2
    refine bodyPost_ret_by (results_tmp_row rfl _ _ _ _ _ _ _ rfl (spot_set HR2.out) Try.underlying140 rfl (by kernel_rfl)) rfl ?_
    exact ⟨⟨_, _, _, rfl⟩, _, HT2.out.late 7 (spot_mods (by have := HRE.out; omega) _ _ _), fun h => by cases h⟩
  | true =>
    by_cases d1 : n1 = 0
    · have d1i : ((n1 : Int) == 0) = true := by rw [beq_iff_eq]; omega
      have e : E = 80 := by rw [← HE.out, headL, HNP.out]; simp [d1]
      subst e
      have z0 := HR2.out.cell 0 _ rfl
      have z1 := HR2.out.cell 1 _ rfl
      have z2 := HR2.out.cell 2 _ rfl
      have f0 := HR2.out.frozen 0
      have f1 := HR2.out.frozen 1
      have f2 := HR2.out.frozen 2
      go_wp2
      refine bodyPost_ret_by (results_tmp_row rfl _ _ _ _ _ _ _ rfl (spot_set HR2.out) Try.underlying140 rfl (by kernel_rfl)) rfl ?_
      exact ⟨⟨_, _, _, rfl⟩, _, HT2.out.late 7 (spot_mods (by have := HRE.out; omega) _ _ _), fun h => by cases h⟩
    have d1i : ((n1 : Int) == 0) = false := by rw [beq_eq_false_iff_ne]; omega
    by_cases d2 : 32 < n1
    · have d2i : (32 : Int) < n1 := by omega
      have e : E = 81 := by rw [← HE.out, headL, HNP.out]; simp [d1, d2]
      subst e
      have z0 := HR2.out.cell 0 _ rfl
      have z1 := HR2.out.cell 1 _ rfl
      have z2 := HR2.out.cell 2 _ rfl
      have f0 := HR2.out.frozen 0
      have f1 := HR2.out.frozen 1
      have f2 := HR2.out.frozen 2
      go_wp2
      refine bodyPost_ret_by (results_tmp_row rfl _ _ _ _ _ _ _ rfl (spot_set HR2.out) Try.underlying140 rfl (by kernel_rfl)) rfl ?_
      exact ⟨⟨_, _, _, rfl⟩, _, HT2.out.late 7 (spot_mods (by have := HRE.out; omega) _ _ _), fun h => by cases h⟩
    have d2i : ¬ (32 : Int) < n1 := by omega
    by_cases d3 : 96 < n2
    · have d3i : (96 : Int) < n2 := by omega
      have e : E = 81 := by rw [← HE.out, headL, HNP.out]; simp [d1, d2, d3]
      subst e
      have z0 := HR2.out.cell 0 _ rfl
      have z1 := HR2.out.cell 1 _ rfl
      have z2 := HR2.out.cell 2 _ rfl
      have f0 := HR2.out.frozen 0
      have f1 := HR2.out.frozen 1
      have f2 := HR2.out.frozen 2
      go_wp2
      refine bodyPost_ret_by (results_tmp_row rfl _ _ _ _ _ _ _ rfl (spot_set HR2.out) Try.underlying140 rfl (by kernel_rfl)) rfl ?_
      exact ⟨⟨_, _, _, rfl⟩, _, HT2.out.late 7 (spot_mods (by have := HRE.out; omega) _ _ _), fun h => by cases h⟩
    have d3i : ¬ (96 : Int) < n2 := by omega
    by_cases d4 : 16 < n3
    · have d4i : (16 : Int) < n3 := by omega
      have e : E = 81 := by rw [← HE.out, headL, HNP.out]; simp [d1, d2, d3, d4]
      subst e
      have z0 := HR2.out.cell 0 _ rfl
      have z1 := HR2.out.cell 1 _ rfl
      have z2 := HR2.out.cell 2 _ rfl
      have f0 := HR2.out.frozen 0
      have f1 := HR2.out.frozen 1
      have f2 := HR2.out.frozen 2
      go_wp2
      refine bodyPost_ret_by (results_tmp_row rfl _ _ _ _ _ _ _ rfl (spot_set HR2.out) Try.underlying140 rfl (by kernel_rfl)) rfl ?_
      exact ⟨⟨_, _, _, rfl⟩, _, HT2.out.late 7 (spot_mods (by have := HRE.out; omega) _ _ _), fun h => by cases h⟩
    have d4i : ¬ (16 : Int) < n3 := by omega
    by_cases d5 : 16 < n4
    · have d5i : (16 : Int) < n4 := by omega
      have e : E = 81 := by rw [← HE.out, headL, HNP.out]; simp [d1, d2, d3, d4, d5]
      subst e
      have z0 := HR2.out.cell 0 _ rfl
      have z1 := HR2.out.cell 1 _ rfl
      have z2 := HR2.out.cell 2 _ rfl
      have f0 := HR2.out.frozen 0
      have f1 := HR2.out.frozen 1
      have f2 := HR2.out.frozen 2
      go_wp2
      refine bodyPost_ret_by (results_tmp_row rfl _ _ _ _ _ _ _ rfl (spot_set HR2.out) Try.underlying140 rfl (by kernel_rfl)) rfl ?_
      exact ⟨⟨_, _, _, rfl⟩, _, HT2.out.late 7 (spot_mods (by have := HRE.out; omega) _ _ _), fun h => by cases h⟩
    have d5i : ¬ (16 : Int) < n4 := by omega
    have e : E = 0 := by rw [← HE.out, headL, HNP.out]; simp [d1, d2, d3, d4, d5]
    subst e
    have z0 := HR2.out.cell 0 _ rfl
    have z1 := HR2.out.cell 1 _ rfl
    have z2 := HR2.out.cell 2 _ rfl
    have f0 := HR2.out.frozen 0
    have f1 := HR2.out.frozen 1
    have f2 := HR2.out.frozen 2
    go_wp2
    refine bodyPost_ret_by (results_tmp_row rfl _ _ _ _ _ _ _ rfl (spot_set HR2.out) Try.underlying140 rfl (by kernel_rfl)) rfl ?_
    exact ⟨⟨_, _, _, rfl⟩, _, HT2.out.late 7 (spot_mods (by have := HRE.out; omega) _ _ _), fun _ => HC2.out.spot HR2.out _ _ _⟩
end Go.Proofs.Ytbmbfifempkhgaa
