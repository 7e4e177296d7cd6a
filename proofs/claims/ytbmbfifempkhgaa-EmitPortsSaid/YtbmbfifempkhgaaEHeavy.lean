/- HeavyGraph. -/
import Derived.Test.YtbmbfifempkhgaaEFlat
namespace Go.Proofs.Ytbmbfifempkhgaa
open Go.RowKit

def pSum (l : List GActor) : Nat := (l.map fun a => a.params.length).sum
def eSum (l : List GEdge) : Nat := (l.map fun a => a.start.length).sum
theorem pSum_take {l : List GActor} {j : Nat} (h : j < l.length) : pSum (l.take (j + 1)) = pSum (l.take j) + l[j].params.length := by
  rw [pSum, pSum, List.take_succ_eq_append_getElem h, List.map_append, List.sum_append]; simp
theorem eSum_take {l : List GEdge} {j : Nat} (h : j < l.length) : eSum (l.take (j + 1)) = eSum (l.take j) + l[j].start.length := by
  rw [eSum, eSum, List.take_succ_eq_append_getElem h, List.map_append, List.sum_append]; simp
def headN (g : GGraph) : Nat := g.actors.length + g.edges.length + g.ins.length + g.outs.length
/-- no part of it is great -/
structure Great (g : GGraph) : Prop where
  actors : g.actors.length ≤ 17600000000000
  edges : g.edges.length ≤ 17600000000000
  ins : g.ins.length ≤ 17600000000000
  outs : g.outs.length ≤ 17600000000000
  params : ∀ a ∈ g.actors, a.params.length ≤ 17600000000000
  starts : ∀ e ∈ g.edges, e.start.length ≤ 17600000000000
def HeavyRet (w : World) (g : GGraph) (e : Ending) (w' : World) : Prop := ∃ b, e = .returned (.bool b) ∧ (b = false → headN g + pSum g.actors + eSum g.edges ≤ 1048576) ∧ Below w.heap.size w w'


set_option maxRecDepth 100000 in
set_option maxHeartbeats 1000000 in
theorem heavy_graph (w : World) (vg : Value) (g : GGraph) (hg : HasGraph w vg g) (hgr : Great g) : Calls Try.prog 21 #[vg] w (HeavyRet w g) := by
  obtain ⟨va, ve, vi, vo, rfl, ra, re, ri, ro⟩ := hg.shape
  obtain ⟨aa, ac, rfl⟩ := ra.slice
  obtain ⟨ae, ec, rfl⟩ := re.slice
  obtain ⟨ai, ic, rfl⟩ := ri.slice
  obtain ⟨ao, oc, rfl⟩ := ro.slice
  have hb1 := below_alloc w (.cells #[.string g.name, .slice aa g.actors.length ac, .slice ae g.edges.length ec, .slice ai g.ins.length ic, .slice ao g.outs.length oc] 26)
  have hG := heap_alloc_new w (.cells #[.string g.name, .slice aa g.actors.length ac, .slice ae g.edges.length ec, .slice ai g.ins.length ic, .slice ao g.outs.length oc] 26)
  generalize hW : w.alloc (.cells #[.string g.name, .slice aa g.actors.length ac, .slice ae g.edges.length ec, .slice ai g.ins.length ic, .slice ao g.outs.length oc] 26) = W at *
  have y1 := cells_row _ _ hG 1 _ rfl
  have y2 := cells_row _ _ hG 2 _ rfl
  have y3 := cells_row _ _ hG 3 _ rfl
  have y4 := cells_row _ _ hG 4 _ rfl
  have RA := Lib.hid (ra.below actor_steady hb1)
  have RE := Lib.hid (re.below edge_steady hb1)
  have HB := Lib.hid hb1
  have GR := Lib.hid hgr
  have s1 := hgr.actors
  have s2 := hgr.edges
  have s3 := hgr.ins
  have s4 := hgr.outs
  obtain ⟨A, hA⟩ : ∃ x, headN g = x := ⟨_, rfl⟩
  have hA2 : A = g.actors.length + g.edges.length + g.ins.length + g.outs.length := hA.symm
  have HA := Lib.hid hA
  have e1 : IntKind.i64.wrap ((g.actors.length : Int) + g.edges.length) = (g.actors.length : Int) + g.edges.length := IntWalk.i64_in _ (by omega)
  have e2 : IntKind.i64.wrap ((g.actors.length : Int) + g.edges.length + g.ins.length) = (g.actors.length : Int) + g.edges.length + g.ins.length := IntWalk.i64_in _ (by omega)
  have e3 : IntKind.i64.wrap ((g.actors.length : Int) + g.edges.length + g.ins.length + g.outs.length) = (A : Int) := by rw [IntWalk.i64_in _ (by omega)]; omega
  clear ra re ri ro hgr hg hG hb1 hA
  go_enter Try.func21, Try.ntmps21
  go_wp2_with fail
  clear e1 e2 e3 y3 y4 hW
  obtain ⟨n, hn⟩ : ∃ x, g.actors.length = x := ⟨_, rfl⟩
  have HN := Lib.hid hn
  rw [hn] at s1 hA2 y1 y2 RA ⊢
  clear hn
  obtain ⟨m, hm⟩ : ∃ x, g.edges.length = x := ⟨_, rfl⟩
  have HM := Lib.hid hm
  rw [hm] at s2 hA2 y1 y2 RE ⊢
  clear hm
  go_loopw [3, 4] (fun x i wr => ∃ (k : Nat), k ≤ n ∧ i = .int .i64 k ∧ x = .int .i64 ((A + pSum (g.actors.take k) : Nat) : Int) ∧ A + pSum (g.actors.take k) ≤ 100000000000000 ∧ wr = W) (fun _ i _ => n - (intOf i).toNat)
  case atStart => exact ⟨0, Nat.zero_le _, rfl, by simp [pSum]; omega, by simp [pSum]; omega, rfl⟩
  case round =>
    obtain ⟨k, hk, rfl, rfl, hle, hWW⟩ := hrel
    obtain rfl := hWW.symm
    by_cases hgo : k < n ∧ A + pSum (g.actors.take k) ≤ 1048576
    · obtain ⟨hlt, hsm⟩ := hgo
      have hlti : (k : Int) < n := by omega
      have hlt2 : k < g.actors.length := by have := HN.out; omega
      have hsmi : ((A + pSum (g.actors.take k) : Nat) : Int) ≤ 1048576 := by omega
      obtain ⟨b0, off, rfl, hcap, hb0, hrec⟩ := RA.out.at (by omega)
      obtain ⟨cs, hcs, hPR, hcl⟩ := hrec k hlt2
      obtain ⟨xs, rfl, hst⟩ := hPR
      have c2 := hcl 2 (by omega)
      simp at c2
      obtain ⟨sa, sc, hxs⟩ := Ints.slice hst
      subst hxs
      have hcapi : (n : Int) ≤ ac := by have := HN.out; omega
      have hpk := GR.out.params _ (List.getElem_mem hlt2)
      have hT := pSum_take hlt2
      have hwr : IntKind.i64.wrap (((A + pSum (g.actors.take k) : Nat) : Int) + (g.actors[k].params.length : Int)) = ((A + pSum (g.actors.take (k + 1)) : Nat) : Int) := by rw [IntWalk.i64_in _ (by omega)]; omega
      obtain ⟨N, hN⟩ : ∃ x, A + pSum (g.actors.take k) = x := ⟨_, rfl⟩
      obtain ⟨N2, hN2⟩ : ∃ x, A + pSum (g.actors.take (k + 1)) = x := ⟨_, rfl⟩
      have hle2 : N2 ≤ 100000000000000 := by omega
      have HN2 := Lib.hid hN2
      rw [hN, hN2] at hwr
      rw [hN] at hsmi ⊢
      clear hcl hcs hrec hst hpk hT hN hN2 hle hsm
      generalize g.actors[k].params.length = z at *
      have hwr := Lib.hid hwr
      go_wp2_with fail
      go_roundw
      case rel => exact ⟨k + 1, hlt, by go_num, by rw [HN2.out], by rw [HN2.out]; exact hle2, by trivial⟩
      case measure => simp [intOf]; omega
    · obtain ⟨N, hN⟩ : ∃ x, A + pSum (g.actors.take k) = x := ⟨_, rfl⟩
      have HE : Hid (N ≤ 1048576 → N = A + pSum g.actors) := Lib.hid fun h => by
        have : k = n := by omega
        rw [← hN, List.take_of_length_le (by have := HN.out; omega)]
      rw [hN] at hle ⊢
      have hgo2 : k < n → ¬ N ≤ 1048576 := fun h h2 => hgo ⟨h, by omega⟩
      clear hN hgo RA
      by_cases hlt : k < n
      · have hlti : (k : Int) < n := by omega
        have hsmi : ¬ (N : Int) ≤ 1048576 := by have := hgo2 hlt; omega
        clear hgo2 hlt
        go_wp2_with fail
        go_loopw [3, 5] (fun x i wr => ∃ (k : Nat), k ≤ m ∧ i = .int .i64 k ∧ x = .int .i64 ((N + eSum (g.edges.take k) : Nat) : Int) ∧ N + eSum (g.edges.take k) ≤ 300000000000000 ∧ wr = W) (fun _ i _ => m - (intOf i).toNat)
        case atStart => exact ⟨0, Nat.zero_le _, rfl, by simp [eSum], by simp [eSum]; omega, rfl⟩
        case round =>
          obtain ⟨k, hk, rfl, rfl, hle, hWW⟩ := hrel
          obtain rfl := hWW.symm
          by_cases hgo : k < m ∧ N + eSum (g.edges.take k) ≤ 1048576
          · obtain ⟨hlt, hsm⟩ := hgo
            have hlti : (k : Int) < m := by omega
            have hlt2 : k < g.edges.length := by have := HM.out; omega
            have hsmi : ((N + eSum (g.edges.take k) : Nat) : Int) ≤ 1048576 := by omega
            obtain ⟨b0, off, rfl, hcap, hb0, hrec⟩ := RE.out.at (by omega)
            obtain ⟨cs, hcs, hPR, hcl⟩ := hrec k hlt2
            obtain ⟨xs, rfl, hst⟩ := hPR
            have c4 := hcl 4 (by omega)
            simp at c4
            obtain ⟨sa, sc, hxs⟩ := Ints.slice hst
            subst hxs
            have hcapi : (m : Int) ≤ ec := by have := HM.out; omega
            have hpk := GR.out.starts _ (List.getElem_mem hlt2)
            have hT := eSum_take hlt2
            have hwr : IntKind.i64.wrap (((N + eSum (g.edges.take k) : Nat) : Int) + (g.edges[k].start.length : Int)) = ((N + eSum (g.edges.take (k + 1)) : Nat) : Int) := by rw [IntWalk.i64_in _ (by omega)]; omega
            obtain ⟨N1, hN⟩ : ∃ x, N + eSum (g.edges.take k) = x := ⟨_, rfl⟩
            obtain ⟨N2, hN2⟩ : ∃ x, N + eSum (g.edges.take (k + 1)) = x := ⟨_, rfl⟩
            have hle2 : N2 ≤ 300000000000000 := by omega
            have HN2 := Lib.hid hN2
            rw [hN, hN2] at hwr
            rw [hN] at hsmi ⊢
            clear hcl hcs hrec hst hpk hT hN hN2 hle hsm
            generalize g.edges[k].start.length = z at *
            have hwr := Lib.hid hwr
            go_wp2_with fail
            go_roundw
            case rel => exact ⟨k + 1, hlt, by go_num, by rw [HN2.out], by rw [HN2.out]; exact hle2, by trivial⟩
            case measure => simp [intOf]; omega
          · obtain ⟨N1, hN⟩ : ∃ x, N + eSum (g.edges.take k) = x := ⟨_, rfl⟩
            have HE2 : Hid (N1 ≤ 1048576 → N1 = A + pSum g.actors + eSum g.edges) := Lib.hid fun h => by
              have e1 : k = m := by omega
              have e2 := HE.out (by omega)
              rw [← hN, e2, List.take_of_length_le (by have := HM.out; omega)]
            rw [hN] at hle ⊢
            have hgo2 : k < m → ¬ N1 ≤ 1048576 := fun h h2 => hgo ⟨h, by omega⟩
            clear hN hgo RE
            by_cases hbig : N1 ≤ 1048576
            · have hlti : ¬ (k : Int) < m := by have : ¬ k < m := fun h => hgo2 h hbig; omega
              have hbi : ¬ (1048576 : Int) < N1 := by omega
              have HBG := Lib.hid hbig
              clear hgo2 hbig
              go_wp2
              go_ret
              exact ⟨_, rfl, fun _ => by rw [HA.out, ← HE2.out HBG.out]; exact HBG.out, HB.out⟩
            · have hbi : (1048576 : Int) < N1 := by omega
              have hsm2 : ¬ (N1 : Int) ≤ 1048576 := by omega
              clear hgo2 hbig
              by_cases hlt : k < m
              · have hlti : (k : Int) < m := by omega
                clear hlt
                go_wp2
                go_ret
                exact ⟨_, rfl, (fun h => by cases h), HB.out⟩
              · have hlti : ¬ (k : Int) < m := by omega
                clear hlt
                go_wp2
                go_ret
                exact ⟨_, rfl, (fun h => by cases h), HB.out⟩
      · have hlti : ¬ (k : Int) < n := by omega
        clear hgo2 hlt
        go_wp2_with fail
        go_loopw [3, 5] (fun x i wr => ∃ (k : Nat), k ≤ m ∧ i = .int .i64 k ∧ x = .int .i64 ((N + eSum (g.edges.take k) : Nat) : Int) ∧ N + eSum (g.edges.take k) ≤ 300000000000000 ∧ wr = W) (fun _ i _ => m - (intOf i).toNat)
        case atStart => exact ⟨0, Nat.zero_le _, rfl, by simp [eSum], by simp [eSum]; omega, rfl⟩
        case round =>
          obtain ⟨k, hk, rfl, rfl, hle, hWW⟩ := hrel
          obtain rfl := hWW.symm
          by_cases hgo : k < m ∧ N + eSum (g.edges.take k) ≤ 1048576
          · obtain ⟨hlt, hsm⟩ := hgo
            have hlti : (k : Int) < m := by omega
            have hlt2 : k < g.edges.length := by have := HM.out; omega
            have hsmi : ((N + eSum (g.edges.take k) : Nat) : Int) ≤ 1048576 := by omega
            obtain ⟨b0, off, rfl, hcap, hb0, hrec⟩ := RE.out.at (by omega)
            obtain ⟨cs, hcs, hPR, hcl⟩ := hrec k hlt2
            obtain ⟨xs, rfl, hst⟩ := hPR
            have c4 := hcl 4 (by omega)
            simp at c4
            obtain ⟨sa, sc, hxs⟩ := Ints.slice hst
            subst hxs
            have hcapi : (m : Int) ≤ ec := by have := HM.out; omega
            have hpk := GR.out.starts _ (List.getElem_mem hlt2)
            have hT := eSum_take hlt2
            have hwr : IntKind.i64.wrap (((N + eSum (g.edges.take k) : Nat) : Int) + (g.edges[k].start.length : Int)) = ((N + eSum (g.edges.take (k + 1)) : Nat) : Int) := by rw [IntWalk.i64_in _ (by omega)]; omega
            obtain ⟨N1, hN⟩ : ∃ x, N + eSum (g.edges.take k) = x := ⟨_, rfl⟩
            obtain ⟨N2, hN2⟩ : ∃ x, N + eSum (g.edges.take (k + 1)) = x := ⟨_, rfl⟩
            have hle2 : N2 ≤ 300000000000000 := by omega
            have HN2 := Lib.hid hN2
            rw [hN, hN2] at hwr
            rw [hN] at hsmi ⊢
            clear hcl hcs hrec hst hpk hT hN hN2 hle hsm
            generalize g.edges[k].start.length = z at *
            have hwr := Lib.hid hwr
            go_wp2_with fail
            go_roundw
            case rel => exact ⟨k + 1, hlt, by go_num, by rw [HN2.out], by rw [HN2.out]; exact hle2, by trivial⟩
            case measure => simp [intOf]; omega
          · obtain ⟨N1, hN⟩ : ∃ x, N + eSum (g.edges.take k) = x := ⟨_, rfl⟩
            have HE2 : Hid (N1 ≤ 1048576 → N1 = A + pSum g.actors + eSum g.edges) := Lib.hid fun h => by
              have e1 : k = m := by omega
              have e2 := HE.out (by omega)
              rw [← hN, e2, List.take_of_length_le (by have := HM.out; omega)]
            rw [hN] at hle ⊢
            have hgo2 : k < m → ¬ N1 ≤ 1048576 := fun h h2 => hgo ⟨h, by omega⟩
            clear hN hgo RE
            by_cases hbig : N1 ≤ 1048576
            · have hlti : ¬ (k : Int) < m := by have : ¬ k < m := fun h => hgo2 h hbig; omega
              have hbi : ¬ (1048576 : Int) < N1 := by omega
              have HBG := Lib.hid hbig
              clear hgo2 hbig
              go_wp2
              go_ret
              exact ⟨_, rfl, fun _ => by rw [HA.out, ← HE2.out HBG.out]; exact HBG.out, HB.out⟩
            · have hbi : (1048576 : Int) < N1 := by omega
              have hsm2 : ¬ (N1 : Int) ≤ 1048576 := by omega
              clear hgo2 hbig
              by_cases hlt : k < m
              · have hlti : (k : Int) < m := by omega
                clear hlt
                go_wp2
                go_ret
                exact ⟨_, rfl, (fun h => by cases h), HB.out⟩
              · have hlti : ¬ (k : Int) < m := by omega
                clear hlt
                go_wp2
                go_ret
                exact ⟨_, rfl, (fun h => by cases h), HB.out⟩
end Go.Proofs.Ytbmbfifempkhgaa
