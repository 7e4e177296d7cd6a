/- The reference's questions about a graph: is a port taken, is a name. -/
import Derived.Test.YtbmbfifempkhgaaEmitMakesZ8
import Derived.Test.YtbmbfifempkhgaaEmitMakesZ2
import Derived.Test.YtbmbfifempkhgaaEmitMakesZ1
import Derived.Test.YtbmbfifempkhgaaEmitMakesZ4
import Derived.Test.YtbmbfifempkhgaaEmitMakesZ7
namespace Go.Proofs.Ytbmbfifempkhgaa
open Go.RowKit
theorem any_take_of {α : Type} {l : List α} {f : α → Bool} {j n : Nat} (hj : j < l.length) (hn : j < n) (hf : f l[j] = true) : (l.take n).any f = true := by
 rw [List.any_eq_true]
 exact ⟨l[j], List.mem_take_iff_getElem.2 ⟨j, by omega, rfl⟩, hf⟩
theorem any_take_next {α : Type} {l : List α} {f : α → Bool} {j : Nat} (hj : j < l.length) (h : (l.take j).any f = false) (hf : f l[j] = false) : (l.take (j + 1)).any f = false := by
 rw [take_any l f hj, h, hf]
 rfl
/- $1 slot, $2 how many, $3 list, $4 Recs, $5 size, $6 cap, $7 f, $8 first field's value, $9 second's; a0 a1: cells -/
/- $1 the name, $2 the test over edges, $3 first field, $4 second field, $5 test over ports, $6 ports, $7 Recs, $8 cap -/
set_option maxRecDepth 100000 in
set_option maxHeartbeats 2000000 in
theorem outTaken_any (w : World) (v : Value) (g : GGraph) (e o : Nat) (a p : Int) (h : HasGraph w v g) (he : e ≤ g.edges.length) (ho : o ≤ (g.outs).length) (he2 : e ≤ 1000000) (ho2 : o ≤ 1000000) : Calls Try.prog 117 #[v, .int .i64 (e : Int), .int .i64 (o : Int), .int .i64 a, .int .i64 p] w (Tells (.bool (outT g e o a p)) w) := by
 obtain ⟨va, ve, vi, vo, rfl, ra, re, ri, ro⟩ := h.shape
 obtain ⟨aa, ac, rfl⟩ := ra.slice
 obtain ⟨ae, ec, rfl⟩ := re.slice
 obtain ⟨ai, ic, rfl⟩ := ri.slice
 obtain ⟨ao, oc, rfl⟩ := ro.slice
 have HRA := Lib.hid ra
 have HRE := Lib.hid re
 have HRI := Lib.hid ri
 have HRO := Lib.hid ro
 have hb := below_alloc w (.cells #[.string g.name, .slice aa g.actors.length ac, .slice ae g.edges.length ec, .slice ai g.ins.length ic, .slice ao g.outs.length oc] 26)
 have HB := Lib.hid hb
 have hX := heap_alloc_new w (.cells #[.string g.name, .slice aa g.actors.length ac, .slice ae g.edges.length ec, .slice ai g.ins.length ic, .slice ao g.outs.length oc] 26)
 have x1 := cells_row _ _ hX 1 _ rfl
 have x2 := cells_row _ _ hX 2 _ rfl
 have x3 := cells_row _ _ hX 3 _ rfl
 have x4 := cells_row _ _ hX 4 _ rfl
 clear h ra re ri ro hb hX
 unfold outT
 go_enter Try.func117, Try.ntmps117
 go_wp2_with fail
 obtain ⟨wb, hwb⟩ : ∃ x, w.alloc (.cells #[.string g.name, .slice aa g.actors.length ac, .slice ae g.edges.length ec, .slice ai g.ins.length ic, .slice ao g.outs.length oc] 26) = x := ⟨_, rfl⟩
 rw [hwb] at HB x1 x2 x3 x4 ⊢
 clear hwb
 go_loopw [11] (fun i wl => ∃ j : Nat, j ≤ e ∧ i = .int .i64 j ∧ wl = wb ∧ ((g.edges).take j).any (fun x => decide (x.src = a) && decide (x.sport = p)) = false) (fun i _ => e - (intOf i).toNat)
 case atStart => exact ⟨0, Nat.zero_le _, rfl, rfl, by simp⟩
 case round =>
  obtain ⟨j, hj, rfl, rfl, hno⟩ := hrel
  have HNO := Lib.hid hno
  clear hno
  by_cases hlt : j < e
  ·
   have hlti : (j : Int) < e := by omega
   have hjl : j < g.edges.length := by omega
   obtain ⟨b0, off, rfl, hcap, hb0, hrec⟩ := HRE.out.at (by omega)
   obtain ⟨cs, hcs, hPR, hcl⟩ := hrec j hjl
   obtain ⟨xs, rfl, -⟩ := hPR
   have c0 := cell_later HB.out (hcl 0 (by omega))
   have c1 := cell_later HB.out (hcl 1 (by omega))
   have c2 := cell_later HB.out (hcl 2 (by omega))
   have c3 := cell_later HB.out (hcl 3 (by omega))
   simp at c0 c1 c2 c3
   have hcapi : (g.edges.length : Int) ≤ ec := by omega
   clear hrec hcl hcs hb0 hcap
   have hjli : (j : Int) < g.edges.length := by omega
   by_cases h1 : g.edges[j].src = a
   ·
    have h1b : (g.edges[j].src == a) = true := by rw [beq_iff_eq]; exact h1
    by_cases h2 : g.edges[j].sport = p
    ·
     have h2b : (g.edges[j].sport == p) = true := by rw [beq_iff_eq]; exact h2
     have hyes := any_take_of (f := fun x : GEdge => decide (x.src = a) && decide (x.sport = p)) hjl hlt (by simp [h1, h2])
     have HY := Lib.hid hyes
     clear hyes h1 h2
     go_wp2
     go_ret
     exact ⟨by rw [HY.out]; rfl, HB.out⟩
    ·
     have h2b : (g.edges[j].sport == p) = false := by rw [beq_eq_false_iff_ne]; exact h2
     have hnx := any_take_next (f := fun x : GEdge => decide (x.src = a) && decide (x.sport = p)) hjl HNO.out (by simp [h2])
     have HX := Lib.hid hnx
     clear hnx h1 h2
     go_wp2
     go_roundw
     case rel => exact ⟨j + 1, hlt, by go_num, by first | rfl | trivial, HX.out⟩
     case measure => simp [intOf]; omega
   ·
    have h1b : (g.edges[j].src == a) = false := by rw [beq_eq_false_iff_ne]; exact h1
    have hnx := any_take_next (f := fun x : GEdge => decide (x.src = a) && decide (x.sport = p)) hjl HNO.out (by simp [h1])
    have HX := Lib.hid hnx
    clear hnx h1
    go_wp2
    go_roundw
    case rel => exact ⟨j + 1, hlt, by go_num, by first | rfl | trivial, HX.out⟩
    case measure => simp [intOf]; omega
  ·
   obtain rfl : j = e := by omega
   have hlti : ¬ ((j : Int) < j) := by omega
   have HNE := Lib.hid HNO.out
   clear HNO hj hlt
   go_wp2_with fail
   go_loopw [12] (fun i wl => ∃ k : Nat, k ≤ o ∧ i = .int .i64 k ∧ wl = wr ∧ ((g.outs).take k).any (fun x => decide (x.actor = a) && decide (x.port = p)) = false) (fun i _ => o - (intOf i).toNat)
   case atStart => exact ⟨0, Nat.zero_le _, rfl, rfl, by simp⟩
   case round =>
    obtain ⟨k, hk, rfl, rfl, hno⟩ := hrel
    have HNO := Lib.hid hno
    clear hno
    by_cases hlt : k < o
    ·
     have hlti : (k : Int) < o := by omega
     have hjl : k < (g.outs).length := by omega
     obtain ⟨b0, off, rfl, hcap, hb0, hrec⟩ := HRO.out.at (by omega)
     obtain ⟨cs, hcs, hPR, hcl⟩ := hrec k hjl
     obtain rfl := hPR
     have c1 := cell_later HB.out (hcl 1 (by omega))
     have c2 := cell_later HB.out (hcl 2 (by omega))
     simp at c1 c2
     have hcapi : ((g.outs).length : Int) ≤ oc := by omega
     have hkli : (k : Int) < (g.outs).length := by omega
     clear hrec hcl hcs hb0 hcap
     by_cases h1 : (g.outs)[k].actor = a
     ·
      have h1b : ((g.outs)[k].actor == a) = true := by rw [beq_iff_eq]; exact h1
      by_cases h2 : (g.outs)[k].port = p
      ·
       have h2b : ((g.outs)[k].port == p) = true := by rw [beq_iff_eq]; exact h2
       have hyes := any_take_of (f := fun x : GPort => decide (x.actor = a) && decide (x.port = p)) hjl hlt (by simp [h1, h2])
       have HY := Lib.hid hyes
       clear hyes h1 h2
       go_wp2
       go_ret
       exact ⟨by rw [HY.out, Bool.or_true]; rfl, HB.out⟩
      ·
       have h2b : ((g.outs)[k].port == p) = false := by rw [beq_eq_false_iff_ne]; exact h2
       have hnx := any_take_next (f := fun x : GPort => decide (x.actor = a) && decide (x.port = p)) hjl HNO.out (by simp [h2])
       have HX := Lib.hid hnx
       clear hnx h1 h2
       go_wp2
       go_roundw
       case rel => exact ⟨k + 1, hlt, by go_num, by first | rfl | trivial, HX.out⟩
       case measure => simp [intOf]; omega
     ·
      have h1b : ((g.outs)[k].actor == a) = false := by rw [beq_eq_false_iff_ne]; exact h1
      have hnx := any_take_next (f := fun x : GPort => decide (x.actor = a) && decide (x.port = p)) hjl HNO.out (by simp [h1])
      have HX := Lib.hid hnx
      clear hnx h1
      go_wp2
      go_roundw
      case rel => exact ⟨k + 1, hlt, by go_num, by first | rfl | trivial, HX.out⟩
      case measure => simp [intOf]; omega
    ·
     obtain rfl : k = o := by omega
     have hlti : ¬ ((k : Int) < k) := by omega
     go_wp2
     go_ret
     exact ⟨by rw [HNE.out, HNO.out]; rfl, HB.out⟩
set_option maxRecDepth 100000 in
set_option maxHeartbeats 2000000 in
theorem inTaken_any (w : World) (v : Value) (g : GGraph) (e o : Nat) (a p : Int) (h : HasGraph w v g) (he : e ≤ g.edges.length) (ho : o ≤ (g.ins).length) (he2 : e ≤ 1000000) (ho2 : o ≤ 1000000) : Calls Try.prog 118 #[v, .int .i64 (e : Int), .int .i64 (o : Int), .int .i64 a, .int .i64 p] w (Tells (.bool (inT g e o a p)) w) := by
 obtain ⟨va, ve, vi, vo, rfl, ra, re, ri, ro⟩ := h.shape
 obtain ⟨aa, ac, rfl⟩ := ra.slice
 obtain ⟨ae, ec, rfl⟩ := re.slice
 obtain ⟨ai, ic, rfl⟩ := ri.slice
 obtain ⟨ao, oc, rfl⟩ := ro.slice
 have HRA := Lib.hid ra
 have HRE := Lib.hid re
 have HRI := Lib.hid ri
 have HRO := Lib.hid ro
 have hb := below_alloc w (.cells #[.string g.name, .slice aa g.actors.length ac, .slice ae g.edges.length ec, .slice ai g.ins.length ic, .slice ao g.outs.length oc] 26)
 have HB := Lib.hid hb
 have hX := heap_alloc_new w (.cells #[.string g.name, .slice aa g.actors.length ac, .slice ae g.edges.length ec, .slice ai g.ins.length ic, .slice ao g.outs.length oc] 26)
 have x1 := cells_row _ _ hX 1 _ rfl
 have x2 := cells_row _ _ hX 2 _ rfl
 have x3 := cells_row _ _ hX 3 _ rfl
 have x4 := cells_row _ _ hX 4 _ rfl
 clear h ra re ri ro hb hX
 unfold inT
 go_enter Try.func118, Try.ntmps118
 go_wp2_with fail
 obtain ⟨wb, hwb⟩ : ∃ x, w.alloc (.cells #[.string g.name, .slice aa g.actors.length ac, .slice ae g.edges.length ec, .slice ai g.ins.length ic, .slice ao g.outs.length oc] 26) = x := ⟨_, rfl⟩
 rw [hwb] at HB x1 x2 x3 x4 ⊢
 clear hwb
 go_loopw [11] (fun i wl => ∃ j : Nat, j ≤ e ∧ i = .int .i64 j ∧ wl = wb ∧ ((g.edges).take j).any (fun x => decide (x.dst = a) && decide (x.dport = p)) = false) (fun i _ => e - (intOf i).toNat)
 case atStart => exact ⟨0, Nat.zero_le _, rfl, rfl, by simp⟩
 case round =>
  obtain ⟨j, hj, rfl, rfl, hno⟩ := hrel
  have HNO := Lib.hid hno
  clear hno
  by_cases hlt : j < e
  ·
   have hlti : (j : Int) < e := by omega
   have hjl : j < g.edges.length := by omega
   obtain ⟨b0, off, rfl, hcap, hb0, hrec⟩ := HRE.out.at (by omega)
   obtain ⟨cs, hcs, hPR, hcl⟩ := hrec j hjl
   obtain ⟨xs, rfl, -⟩ := hPR
   have c0 := cell_later HB.out (hcl 0 (by omega))
   have c1 := cell_later HB.out (hcl 1 (by omega))
   have c2 := cell_later HB.out (hcl 2 (by omega))
   have c3 := cell_later HB.out (hcl 3 (by omega))
   simp at c0 c1 c2 c3
   have hcapi : (g.edges.length : Int) ≤ ec := by omega
   clear hrec hcl hcs hb0 hcap
   have hjli : (j : Int) < g.edges.length := by omega
   by_cases h1 : g.edges[j].dst = a
   ·
    have h1b : (g.edges[j].dst == a) = true := by rw [beq_iff_eq]; exact h1
    by_cases h2 : g.edges[j].dport = p
    ·
     have h2b : (g.edges[j].dport == p) = true := by rw [beq_iff_eq]; exact h2
     have hyes := any_take_of (f := fun x : GEdge => decide (x.dst = a) && decide (x.dport = p)) hjl hlt (by simp [h1, h2])
     have HY := Lib.hid hyes
     clear hyes h1 h2
     go_wp2
     go_ret
     exact ⟨by rw [HY.out]; rfl, HB.out⟩
    ·
     have h2b : (g.edges[j].dport == p) = false := by rw [beq_eq_false_iff_ne]; exact h2
     have hnx := any_take_next (f := fun x : GEdge => decide (x.dst = a) && decide (x.dport = p)) hjl HNO.out (by simp [h2])
     have HX := Lib.hid hnx
     clear hnx h1 h2
     go_wp2
     go_roundw
     case rel => exact ⟨j + 1, hlt, by go_num, by first | rfl | trivial, HX.out⟩
     case measure => simp [intOf]; omega
   ·
    have h1b : (g.edges[j].dst == a) = false := by rw [beq_eq_false_iff_ne]; exact h1
    have hnx := any_take_next (f := fun x : GEdge => decide (x.dst = a) && decide (x.dport = p)) hjl HNO.out (by simp [h1])
    have HX := Lib.hid hnx
    clear hnx h1
    go_wp2
    go_roundw
    case rel => exact ⟨j + 1, hlt, by go_num, by first | rfl | trivial, HX.out⟩
    case measure => simp [intOf]; omega
  ·
   obtain rfl : j = e := by omega
   have hlti : ¬ ((j : Int) < j) := by omega
   have HNE := Lib.hid HNO.out
   clear HNO hj hlt
   go_wp2_with fail
   go_loopw [12] (fun i wl => ∃ k : Nat, k ≤ o ∧ i = .int .i64 k ∧ wl = wr ∧ ((g.ins).take k).any (fun x => decide (x.actor = a) && decide (x.port = p)) = false) (fun i _ => o - (intOf i).toNat)
   case atStart => exact ⟨0, Nat.zero_le _, rfl, rfl, by simp⟩
   case round =>
    obtain ⟨k, hk, rfl, rfl, hno⟩ := hrel
    have HNO := Lib.hid hno
    clear hno
    by_cases hlt : k < o
    ·
     have hlti : (k : Int) < o := by omega
     have hjl : k < (g.ins).length := by omega
     obtain ⟨b0, off, rfl, hcap, hb0, hrec⟩ := HRI.out.at (by omega)
     obtain ⟨cs, hcs, hPR, hcl⟩ := hrec k hjl
     obtain rfl := hPR
     have c1 := cell_later HB.out (hcl 1 (by omega))
     have c2 := cell_later HB.out (hcl 2 (by omega))
     simp at c1 c2
     have hcapi : ((g.ins).length : Int) ≤ ic := by omega
     have hkli : (k : Int) < (g.ins).length := by omega
     clear hrec hcl hcs hb0 hcap
     by_cases h1 : (g.ins)[k].actor = a
     ·
      have h1b : ((g.ins)[k].actor == a) = true := by rw [beq_iff_eq]; exact h1
      by_cases h2 : (g.ins)[k].port = p
      ·
       have h2b : ((g.ins)[k].port == p) = true := by rw [beq_iff_eq]; exact h2
       have hyes := any_take_of (f := fun x : GPort => decide (x.actor = a) && decide (x.port = p)) hjl hlt (by simp [h1, h2])
       have HY := Lib.hid hyes
       clear hyes h1 h2
       go_wp2
       go_ret
       exact ⟨by rw [HY.out, Bool.or_true]; rfl, HB.out⟩
      ·
       have h2b : ((g.ins)[k].port == p) = false := by rw [beq_eq_false_iff_ne]; exact h2
       have hnx := any_take_next (f := fun x : GPort => decide (x.actor = a) && decide (x.port = p)) hjl HNO.out (by simp [h2])
       have HX := Lib.hid hnx
       clear hnx h1 h2
       go_wp2
       go_roundw
       case rel => exact ⟨k + 1, hlt, by go_num, by first | rfl | trivial, HX.out⟩
       case measure => simp [intOf]; omega
     ·
      have h1b : ((g.ins)[k].actor == a) = false := by rw [beq_eq_false_iff_ne]; exact h1
      have hnx := any_take_next (f := fun x : GPort => decide (x.actor = a) && decide (x.port = p)) hjl HNO.out (by simp [h1])
      have HX := Lib.hid hnx
      clear hnx h1
      go_wp2
      go_roundw
      case rel => exact ⟨k + 1, hlt, by go_num, by first | rfl | trivial, HX.out⟩
      case measure => simp [intOf]; omega
    ·
     obtain rfl : k = o := by omega
     have hlti : ¬ ((k : Int) < k) := by omega
     go_wp2
     go_ret
     exact ⟨by rw [HNE.out, HNO.out]; rfl, HB.out⟩
end Go.Proofs.Ytbmbfifempkhgaa

/- The reference's Name. -/
namespace Go.Proofs.Ytbmbfifempkhgaa
open Go.RowKit
theorem xletter_any (w : World) (b : Int) : Calls Try.prog 113 #[.int .u8 b] w (SameW (.bool (letterP b)) w) := by
 unfold letterP
 by_cases h1 : 97 ≤ b
 ·
  rw [decide_eq_true h1, Bool.true_and]
  go_enter Try.func113, Try.ntmps113
  go_wp2
  go_ret
  exact ⟨rfl, rfl⟩
 ·
  rw [decide_eq_false h1, Bool.false_and]
  go_enter Try.func113, Try.ntmps113
  go_wp2
  go_ret
  exact ⟨rfl, rfl⟩
theorem xdigit_any (w : World) (b : Int) : Calls Try.prog 126 #[.int .u8 b] w (SameW (.bool (digitP b)) w) := by
 unfold digitP
 by_cases h1 : 48 ≤ b
 ·
  rw [decide_eq_true h1, Bool.true_and]
  go_enter Try.func126, Try.ntmps126
  go_wp2
  go_ret
  exact ⟨rfl, rfl⟩
 ·
  rw [decide_eq_false h1, Bool.false_and]
  go_enter Try.func126, Try.ntmps126
  go_wp2
  go_ret
  exact ⟨rfl, rfl⟩
theorem xinside_any (w : World) (b : Int) : Calls Try.prog 114 #[.int .u8 b] w (SameW (.bool (insideP b)) w) := by
 unfold insideP
 obtain ⟨x, hx⟩ : ∃ x, letterP b = x := ⟨_, rfl⟩
 obtain ⟨y, hy⟩ : ∃ x, digitP b = x := ⟨_, rfl⟩
 rw [hx, hy]
 have HX := Lib.hid hx
 have HY := Lib.hid hy
 clear hx hy
 cases x
 ·
  cases y
  ·
   go_enter Try.func114, Try.ntmps114
   go_wp2_with fail
   refine (xletter_any w b).mono ?_
   rintro e _ ⟨rfl, rfl⟩
   rw [HX.out]
   go_wp2_with fail
   refine (xdigit_any w b).mono ?_
   rintro e _ ⟨rfl, rfl⟩
   rw [HY.out]
   go_wp2
   go_ret
   exact ⟨by simp; rfl, rfl⟩
  ·
   go_enter Try.func114, Try.ntmps114
   go_wp2_with fail
   refine (xletter_any w b).mono ?_
   rintro e _ ⟨rfl, rfl⟩
   rw [HX.out]
   go_wp2_with fail
   refine (xdigit_any w b).mono ?_
   rintro e _ ⟨rfl, rfl⟩
   rw [HY.out]
   go_wp2
   go_ret
   exact ⟨rfl, rfl⟩
 ·
  go_enter Try.func114, Try.ntmps114
  go_wp2_with fail
  refine (xletter_any w b).mono ?_
  rintro e _ ⟨rfl, rfl⟩
  rw [HX.out]
  go_wp2
  go_ret
  exact ⟨by simp, rfl⟩
set_option maxRecDepth 100000 in
set_option maxHeartbeats 1000000 in
theorem xname_any (w : World) (s : ByteArray) (hs : s.size ≤ 4611686018427387904) : Calls Try.prog 102 #[.string s] w (SameW (.bool (nameP s)) w) := by
 obtain ⟨N, hN⟩ : ∃ N, nameP s = N := ⟨_, rfl⟩
 rw [hN]
 have HN := Lib.hid hN
 clear hN
 by_cases h0 : s.size < 1
 ·
  have e : N = false := by
   rw [← HN.out, nameP]
   have : byteP s 0 = 0 := dif_neg (by omega)
   rw [this]
   rfl
  subst e
  have h0i : (s.size : Int) < 1 := by omega
  clear h0
  go_enter Try.func102, Try.ntmps102
  go_wp2
  go_ret
  exact ⟨rfl, rfl⟩
 have hk : 0 < s.size := by omega
 have h0i : ¬ (s.size : Int) < 1 := by omega
 by_cases h16 : 16 < s.size
 ·
  have e : N = false := by
   rw [← HN.out, nameP, decide_eq_false (by omega : ¬ s.size ≤ 16)]
   simp
  subst e
  have h16i : (16 : Int) < s.size := by omega
  clear h0 h16 hk
  go_enter Try.func102, Try.ntmps102
  go_wp2
  go_ret
  exact ⟨rfl, rfl⟩
 have h16i : ¬ (16 : Int) < s.size := by omega
 have hki : (0 : Int) < s.size := by omega
 have hb0 : byteP s 0 = ((s[0]'hk).toNat : Int) := dif_pos hk
 obtain ⟨x, hx⟩ : ∃ x, letterP ((s[0]'hk).toNat : Int) = x := ⟨_, rfl⟩
 have HX := Lib.hid hx
 have HB0 := Lib.hid hb0
 have H16 := Lib.hid h16
 have hse : ¬ s = ByteArray.empty := fun e => by rw [e] at hk; exact absurd hk (by decide)
 clear hx hb0 h0 h16
 cases x with
 | false =>
  have e : N = false := by rw [← HN.out, nameP, HB0.out, HX.out]; rfl
  subst e
  go_enter Try.func102, Try.ntmps102
  go_wp2_with fail
  refine (xletter_any _ _).mono ?_
  rintro e _ ⟨rfl, rfl⟩
  rw [HX.out]
  go_wp2
  go_ret
  exact ⟨rfl, rfl⟩
 | true =>
  go_enter Try.func102, Try.ntmps102
  go_wp2_with fail
  refine (xletter_any _ _).mono ?_
  rintro e _ ⟨rfl, rfl⟩
  rw [HX.out]
  go_wp2_with fail
  go_loopw [3] (fun i wl => ∃ j : Nat, j ≤ s.size ∧ i = .int .i64 j ∧ wl = w ∧ ∀ k, k < j → insideP (byteP s k) = true) (fun i _ => s.size - (intOf i).toNat)
  case atStart => exact ⟨0, Nat.zero_le _, rfl, rfl, fun k hk => by omega⟩
  case round =>
   obtain ⟨j, hj, rfl, rfl, hall⟩ := hrel
   have HA := Lib.hid hall
   clear hall
   by_cases hlt : j < s.size
   ·
    have hlti : (j : Int) < s.size := by omega
    have hbj : byteP s j = ((s[j]'hlt).toNat : Int) := dif_pos hlt
    obtain ⟨y, hy⟩ : ∃ y, insideP ((s[j]'hlt).toNat : Int) = y := ⟨_, rfl⟩
    have HY := Lib.hid hy
    have HBJ := Lib.hid hbj
    clear hbj hy
    go_wp2_with fail
    refine (xinside_any _ _).mono ?_
    rintro e _ ⟨rfl, rfl⟩
    rw [HY.out]
    cases y with
    | false =>
     have e : N = false := by rw [← HN.out, nameP, not_inside hlt (by rw [HBJ.out]; exact HY.out)]; simp
     subst e
     go_wp2
     go_ret
     exact ⟨rfl, rfl⟩
    | true =>
     go_wp2
     go_roundw
     case rel => exact ⟨j + 1, hlt, by go_num, by first | rfl | trivial, fun k hk => by
      by_cases e : k = j
      ·
       subst e; rw [HBJ.out]; exact HY.out
      ·
       exact HA.out k (by omega)⟩
     case measure => simp [intOf]; omega
   ·
    obtain rfl : j = s.size := by omega
    have hlti : ¬ ((s.size : Int) < s.size) := by omega
    have e : N = true := by
     rw [← HN.out, nameP, all_inside HA.out, HB0.out, HX.out, decide_eq_true (by have := H16.out; omega : s.size ≤ 16)]
     rfl
    subst e
    go_wp2
    go_ret
    exact ⟨rfl, rfl⟩
end Go.Proofs.Ytbmbfifempkhgaa

/- The reference's rates, end, named. -/
namespace Go.Proofs.Ytbmbfifempkhgaa
open Go.RowKit
set_option maxRecDepth 100000 in
set_option maxHeartbeats 2000000 in
theorem rates_any' (w : World) (v : Value) (g : GGraph) (t : Nat) (h : HasGraph w v g) (ht : t < g.actors.length) (hg : goodP g.actors[t].tag g.actors[t].params) : Calls Try.prog 119 #[v, .int .i64 (t : Int)] w (Tells (.tuple #[.int .i64 (ratesI g t).length, .int .i64 (ratesO g t).length]) w) := by
 obtain ⟨va, ve, vi, vo, rfl, ra, re, ri, ro⟩ := h.shape
 obtain ⟨aa, ac, rfl⟩ := ra.slice
 obtain ⟨ae, ec, rfl⟩ := re.slice
 obtain ⟨ai, ic, rfl⟩ := ri.slice
 obtain ⟨ao, oc, rfl⟩ := ro.slice
 have HG := Lib.hid h
 have HRA := Lib.hid ra
 have HRE := Lib.hid re
 have HRI := Lib.hid ri
 have HRO := Lib.hid ro
 have hb := below_alloc w (.cells #[.string g.name, .slice aa g.actors.length ac, .slice ae g.edges.length ec, .slice ai g.ins.length ic, .slice ao g.outs.length oc] 26)
 have HB := Lib.hid hb
 have hX := heap_alloc_new w (.cells #[.string g.name, .slice aa g.actors.length ac, .slice ae g.edges.length ec, .slice ai g.ins.length ic, .slice ao g.outs.length oc] 26)
 have HXB := Lib.hid hX
 have x0 := cells_row _ _ hX 0 _ rfl
 have x1 := cells_row _ _ hX 1 _ rfl
 have x2 := cells_row _ _ hX 2 _ rfl
 have x3 := cells_row _ _ hX 3 _ rfl
 have x4 := cells_row _ _ hX 4 _ rfl
 clear h ra re ri ro hb hX
 have hI : ratesI g t = insP g.actors[t].tag g.actors[t].params := by unfold ratesI; rw [List.getElem?_eq_getElem ht]
 have hO : ratesO g t = outsP g.actors[t].tag g.actors[t].params := by unfold ratesO; rw [List.getElem?_eq_getElem ht]
 rw [hI, hO]
 obtain ⟨b0, off, rfl, hcap, hb0, hrec⟩ := HRA.out.at (by omega)
 obtain ⟨cs, hcs, hPR, hcl⟩ := hrec t ht
 obtain ⟨xs, rfl, hst⟩ := hPR
 have c1 := cell_later HB.out (hcl 1 (by omega))
 have c2 := cell_later HB.out (hcl 2 (by omega))
 simp at c1 c2
 obtain ⟨sa, sc, hxs⟩ := Ints.slice hst
 subst hxs
 have hst2 := hst.below HB.out
 have HST := Lib.hid hst2
 have HGD := Lib.hid hg
 obtain ⟨ct, hct⟩ : ∃ x, g.actors[t].tag = x := ⟨_, rfl⟩
 obtain ⟨ps, hps⟩ : ∃ x, g.actors[t].params = x := ⟨_, rfl⟩
 rw [hct, hps] at HGD ⊢
 rw [hps] at HST c2
 rw [hct] at c1
 have hcapi : (g.actors.length : Int) ≤ ac := by omega
 have hti : (t : Int) < g.actors.length := by omega
 clear hst hst2 hrec hcs hcl hb0 hcap hg hI hO hct hps
 go_enter Try.func119, Try.ntmps119
 go_wp2_with fail
 obtain ⟨wb, hwb⟩ : ∃ x, w.alloc (.cells #[.string g.name, .slice (some ⟨b0, off, none⟩) g.actors.length ac, .slice ae g.edges.length ec, .slice ai g.ins.length ic, .slice ao g.outs.length oc] 26) = x := ⟨_, rfl⟩
 rw [hwb] at HB HXB x0 x1 x2 x3 x4 ⊢
 rw [hwb] at HST c1 c2
 clear hwb
 refine wp_region_mid (fun w' => w'.cell? ⟨w.heap.size, 1, none⟩ = some (.slice (some ⟨b0, off, none⟩) g.actors.length ac) ∧ w'.cell? ⟨b0, off + t * 3 + 1, none⟩ = some (.int .u8 ct) ∧ w'.cell? ⟨b0, off + t * 3 + 2, none⟩ = some (.slice sa ps.length sc)) [0, 1, 2, 3, 4, 5, 6, 7, 8, 9, 10, 11] 12 [13, 14, 15, 16] [12, 17, 18] 3 (by kernel_rfl) (by kernel_rfl) rfl ⟨x1, c1, c2⟩ ?_
 intro Q' hQ'
 simp only [pickOps, List.flatMap_cons, List.flatMap_nil, List.drop_succ_cons, List.drop_zero, List.take_succ_cons, List.take_zero, List.cons_append, List.nil_append, List.append_nil]
 repeat (first
  | (refine wpReads_skip (by rfl) ?_; (try simp only [Act.put, List.setIfInBounds_toArray, List.set_cons_zero, List.set_cons_succ]))
  | (refine wpReads_cons ?_ (by rfl) (by rfl) ?_ ?_; rotate_left; (intro wz hz; (try dsimp only at hz); go_simp; try with_reducible rfl); (try simp only [Act.put, List.setIfInBounds_toArray, List.set_cons_zero, List.set_cons_succ]))
  | (refine wpReads_any ?_ (by rfl) ?_ ?_; rotate_left; (intro wz; go_simp; try with_reducible rfl); (try simp only [Act.put, List.setIfInBounds_toArray, List.set_cons_zero, List.set_cons_succ])))
 refine wpReads_nil ?_
 go_wp2_with fail
 refine (rof_ok _ ct sa ps.length sc ps HGD.out (HST.out.drewN 1)).mono ?_
 rintro e w1 ⟨v1, v2, rfl, o1, o2, hb1⟩
 obtain ⟨s1, k1, rfl⟩ := owns_slice o1
 obtain ⟨s2, k2, rfl⟩ := owns_slice o2
 have hs := And.intro (cell_later hb1 x1) (And.intro (cell_later hb1 c1) (cell_later hb1 c2))
 have HS := Lib.hid hs
 have HB1 := Lib.hid ((below_dr (n := 1) HB.out).trans (hb1.mono HB.out.size))
 clear o1 o2 hb1 hs x0 x1 x2 x3 x4 c1 c2
 go_wp2
 refine ⟨HS.out, ?_⟩
 repeat (first
  | (refine wpReads_skip (by rfl) ?_; (try simp only [Act.put, List.setIfInBounds_toArray, List.set_cons_zero, List.set_cons_succ]))
  | (refine wpReads_cons ?_ (by rfl) (by rfl) ?_ ?_; rotate_left; (intro wz hz; (try dsimp only at hz); go_simp; try with_reducible rfl); (try simp only [Act.put, List.setIfInBounds_toArray, List.set_cons_zero, List.set_cons_succ]))
  | (refine wpReads_any ?_ (by rfl) ?_ ?_; rotate_left; (intro wz; go_simp; try with_reducible rfl); (try simp only [Act.put, List.setIfInBounds_toArray, List.set_cons_zero, List.set_cons_succ])))
 refine wpReads_nil ?_
 refine wpAnyT_one (i := 17) (by kernel_rfl) ?_
 simp only [pickOps, List.flatMap_cons, List.flatMap_nil, List.drop_succ_cons, List.drop_zero, List.take_succ_cons, List.take_zero, List.append_nil]
 go_wp2
 refine ⟨by intros; exact HS.out, ?_⟩
 refine wpAnyT_one (i := 18) (by kernel_rfl) ?_
 simp only [pickOps, List.flatMap_cons, List.flatMap_nil, List.drop_succ_cons, List.drop_zero, List.take_succ_cons, List.take_zero, List.append_nil]
 go_wp2
 refine ⟨by intros; exact HS.out, ?_⟩
 refine wpAnyT_list (ks := [19]) (fun _ _ hx h => ⟨hx.cell h.1, hx.cell h.2.1, hx.cell h.2.2⟩) (by kernel_rfl) ?_
 simp only [pickOps, List.flatMap_cons, List.flatMap_nil, List.drop_succ_cons, List.drop_zero, List.take_succ_cons, List.take_zero, List.append_nil]
 go_wp2
 go_ret2
 exact ⟨rfl, HB1.out⟩
/- $1: true or false, $2: the rates -/
set_option maxRecDepth 100000 in
set_option maxHeartbeats 2000000 in
theorem end_true (w : World) (v : Value) (g : GGraph) (a p : Int) (tk : Bool) (h : HasGraph w v g) (hg : ∀ x ∈ g.actors, goodP x.tag x.params) : Calls Try.prog 116 #[v, .int .i64 a, .int .i64 p, .bool true, .bool tk] w (Tells (.int .i64 (endR g (ratesO g) a p tk)) w) := by
 obtain ⟨va, ve, vi, vo, rfl, ra, re, ri, ro⟩ := h.shape
 obtain ⟨aa, ac, rfl⟩ := ra.slice
 obtain ⟨ae, ec, rfl⟩ := re.slice
 obtain ⟨ai, ic, rfl⟩ := ri.slice
 obtain ⟨ao, oc, rfl⟩ := ro.slice
 have HG := Lib.hid h
 have HRA := Lib.hid ra
 have HRE := Lib.hid re
 have HRI := Lib.hid ri
 have HRO := Lib.hid ro
 have hb := below_alloc w (.cells #[.string g.name, .slice aa g.actors.length ac, .slice ae g.edges.length ec, .slice ai g.ins.length ic, .slice ao g.outs.length oc] 26)
 have HB := Lib.hid hb
 have hX := heap_alloc_new w (.cells #[.string g.name, .slice aa g.actors.length ac, .slice ae g.edges.length ec, .slice ai g.ins.length ic, .slice ao g.outs.length oc] 26)
 have HXB := Lib.hid hX
 have x0 := cells_row _ _ hX 0 _ rfl
 have x1 := cells_row _ _ hX 1 _ rfl
 have x2 := cells_row _ _ hX 2 _ rfl
 have x3 := cells_row _ _ hX 3 _ rfl
 have x4 := cells_row _ _ hX 4 _ rfl
 clear h ra re ri ro hb hX
 unfold endR
 by_cases h0 : a < 0
 ·
  rw [if_pos (.inl h0)]
  go_enter Try.func116, Try.ntmps116
  go_wp2
  go_ret
  exact ⟨rfl, HB.out⟩
 by_cases h1 : (g.actors.length : Int) ≤ a
 ·
  rw [if_pos (.inr h1)]
  go_enter Try.func116, Try.ntmps116
  go_wp2
  go_ret
  exact ⟨rfl, HB.out⟩
 rw [if_neg (by omega)]
 obtain ⟨t, rfl⟩ : ∃ t : Nat, a = t := ⟨a.toNat, by omega⟩
 have ht : t < g.actors.length := by omega
 rw [Int.toNat_natCast]
 have hR := rates_any' _ _ g t (HG.out.below HB.out) ht (hg _ (List.getElem_mem ht))
 have HR := Lib.hid hR
 obtain ⟨n, hn⟩ : ∃ n, (ratesO g t).length = n := ⟨_, rfl⟩
 rw [hn]
 have HN := Lib.hid hn
 clear hR hn hg ht
 by_cases h2 : p < 0
 ·
  rw [if_pos (.inl h2)]
  go_enter Try.func116, Try.ntmps116
  go_wp2_with fail
  refine HR.out.mono ?_
  rintro e w1 ⟨rfl, hb1⟩
  rw [HN.out]
  have HB1 := Lib.hid (HB.out.trans (hb1.mono HB.out.size))
  clear hb1
  go_wp2
  go_ret
  exact ⟨rfl, HB1.out⟩
 by_cases h3 : (n : Int) ≤ p
 ·
  rw [if_pos (.inr h3)]
  go_enter Try.func116, Try.ntmps116
  go_wp2_with fail
  refine HR.out.mono ?_
  rintro e w1 ⟨rfl, hb1⟩
  rw [HN.out]
  have HB1 := Lib.hid (HB.out.trans (hb1.mono HB.out.size))
  clear hb1
  go_wp2
  go_ret
  exact ⟨rfl, HB1.out⟩
 rw [if_neg (by omega)]
 cases tk with
 | true =>
  go_enter Try.func116, Try.ntmps116
  go_wp2_with fail
  refine HR.out.mono ?_
  rintro e w1 ⟨rfl, hb1⟩
  rw [HN.out]
  have HB1 := Lib.hid (HB.out.trans (hb1.mono HB.out.size))
  clear hb1
  go_wp2
  go_ret
  exact ⟨rfl, HB1.out⟩
 | false =>
  go_enter Try.func116, Try.ntmps116
  go_wp2_with fail
  refine HR.out.mono ?_
  rintro e w1 ⟨rfl, hb1⟩
  rw [HN.out]
  have HB1 := Lib.hid (HB.out.trans (hb1.mono HB.out.size))
  clear hb1
  go_wp2
  go_ret
  exact ⟨by simp, HB1.out⟩
set_option maxRecDepth 100000 in
set_option maxHeartbeats 2000000 in
theorem end_false (w : World) (v : Value) (g : GGraph) (a p : Int) (tk : Bool) (h : HasGraph w v g) (hg : ∀ x ∈ g.actors, goodP x.tag x.params) : Calls Try.prog 116 #[v, .int .i64 a, .int .i64 p, .bool false, .bool tk] w (Tells (.int .i64 (endR g (ratesI g) a p tk)) w) := by
 obtain ⟨va, ve, vi, vo, rfl, ra, re, ri, ro⟩ := h.shape
 obtain ⟨aa, ac, rfl⟩ := ra.slice
 obtain ⟨ae, ec, rfl⟩ := re.slice
 obtain ⟨ai, ic, rfl⟩ := ri.slice
 obtain ⟨ao, oc, rfl⟩ := ro.slice
 have HG := Lib.hid h
 have HRA := Lib.hid ra
 have HRE := Lib.hid re
 have HRI := Lib.hid ri
 have HRO := Lib.hid ro
 have hb := below_alloc w (.cells #[.string g.name, .slice aa g.actors.length ac, .slice ae g.edges.length ec, .slice ai g.ins.length ic, .slice ao g.outs.length oc] 26)
 have HB := Lib.hid hb
 have hX := heap_alloc_new w (.cells #[.string g.name, .slice aa g.actors.length ac, .slice ae g.edges.length ec, .slice ai g.ins.length ic, .slice ao g.outs.length oc] 26)
 have HXB := Lib.hid hX
 have x0 := cells_row _ _ hX 0 _ rfl
 have x1 := cells_row _ _ hX 1 _ rfl
 have x2 := cells_row _ _ hX 2 _ rfl
 have x3 := cells_row _ _ hX 3 _ rfl
 have x4 := cells_row _ _ hX 4 _ rfl
 clear h ra re ri ro hb hX
 unfold endR
 by_cases h0 : a < 0
 ·
  rw [if_pos (.inl h0)]
  go_enter Try.func116, Try.ntmps116
  go_wp2
  go_ret
  exact ⟨rfl, HB.out⟩
 by_cases h1 : (g.actors.length : Int) ≤ a
 ·
  rw [if_pos (.inr h1)]
  go_enter Try.func116, Try.ntmps116
  go_wp2
  go_ret
  exact ⟨rfl, HB.out⟩
 rw [if_neg (by omega)]
 obtain ⟨t, rfl⟩ : ∃ t : Nat, a = t := ⟨a.toNat, by omega⟩
 have ht : t < g.actors.length := by omega
 rw [Int.toNat_natCast]
 have hR := rates_any' _ _ g t (HG.out.below HB.out) ht (hg _ (List.getElem_mem ht))
 have HR := Lib.hid hR
 obtain ⟨n, hn⟩ : ∃ n, (ratesI g t).length = n := ⟨_, rfl⟩
 rw [hn]
 have HN := Lib.hid hn
 clear hR hn hg ht
 by_cases h2 : p < 0
 ·
  rw [if_pos (.inl h2)]
  go_enter Try.func116, Try.ntmps116
  go_wp2_with fail
  refine HR.out.mono ?_
  rintro e w1 ⟨rfl, hb1⟩
  rw [HN.out]
  have HB1 := Lib.hid (HB.out.trans (hb1.mono HB.out.size))
  clear hb1
  go_wp2
  go_ret
  exact ⟨rfl, HB1.out⟩
 by_cases h3 : (n : Int) ≤ p
 ·
  rw [if_pos (.inr h3)]
  go_enter Try.func116, Try.ntmps116
  go_wp2_with fail
  refine HR.out.mono ?_
  rintro e w1 ⟨rfl, hb1⟩
  rw [HN.out]
  have HB1 := Lib.hid (HB.out.trans (hb1.mono HB.out.size))
  clear hb1
  go_wp2
  go_ret
  exact ⟨rfl, HB1.out⟩
 rw [if_neg (by omega)]
 cases tk with
 | true =>
  go_enter Try.func116, Try.ntmps116
  go_wp2_with fail
  refine HR.out.mono ?_
  rintro e w1 ⟨rfl, hb1⟩
  rw [HN.out]
  have HB1 := Lib.hid (HB.out.trans (hb1.mono HB.out.size))
  clear hb1
  go_wp2
  go_ret
  exact ⟨rfl, HB1.out⟩
 | false =>
  go_enter Try.func116, Try.ntmps116
  go_wp2_with fail
  refine HR.out.mono ?_
  rintro e w1 ⟨rfl, hb1⟩
  rw [HN.out]
  have HB1 := Lib.hid (HB.out.trans (hb1.mono HB.out.size))
  clear hb1
  go_wp2
  go_ret
  exact ⟨by simp, HB1.out⟩
/- one of the three loops: $1 slot, $2 how many, $3 list, $4 Recs, $5 size (Nat), $6 cap, $7 type, $8 what follows (macro) -/
end Go.Proofs.Ytbmbfifempkhgaa

/- The reference's question: has an actor, an input or an output that name? -/
namespace Go.Proofs.Ytbmbfifempkhgaa
open Go.RowKit
theorem barr_yes {a b : ByteArray} (h : a = b) : (a.toList == b.toList) = true := by
 subst h
 simp
theorem barr_no {a b : ByteArray} (h : ¬ a = b) : (a.toList == b.toList) = false := by
 rw [beq_eq_false_iff_ne]
 intro e
 rw [ByteArray.toList_eq, ByteArray.toList_eq] at e
 exact h (ByteArray.ext (Array.toList_inj.1 e))
set_option maxRecDepth 100000 in
set_option maxHeartbeats 2000000 in
theorem named_any (w : World) (v : Value) (g : GGraph) (na ni no : Nat) (s : ByteArray) (h : HasGraph w v g) (h1 : na ≤ g.actors.length ∧ na ≤ 1000000) (h2 : ni ≤ g.ins.length ∧ ni ≤ 1000000) (h3 : no ≤ g.outs.length ∧ no ≤ 1000000) : Calls Try.prog 115 #[v, .int .i64 (na : Int), .int .i64 (ni : Int), .int .i64 (no : Int), .string s] w (Tells (.bool (namedR g na ni no s)) w) := by
 obtain ⟨va, ve, vi, vo, rfl, ra, re, ri, ro⟩ := h.shape
 obtain ⟨aa, ac, rfl⟩ := ra.slice
 obtain ⟨ae, ec, rfl⟩ := re.slice
 obtain ⟨ai, ic, rfl⟩ := ri.slice
 obtain ⟨ao, oc, rfl⟩ := ro.slice
 have HG := Lib.hid h
 have HRA := Lib.hid ra
 have HRE := Lib.hid re
 have HRI := Lib.hid ri
 have HRO := Lib.hid ro
 have hb := below_alloc w (.cells #[.string g.name, .slice aa g.actors.length ac, .slice ae g.edges.length ec, .slice ai g.ins.length ic, .slice ao g.outs.length oc] 26)
 have HB := Lib.hid hb
 have hX := heap_alloc_new w (.cells #[.string g.name, .slice aa g.actors.length ac, .slice ae g.edges.length ec, .slice ai g.ins.length ic, .slice ao g.outs.length oc] 26)
 have HXB := Lib.hid hX
 have x0 := cells_row _ _ hX 0 _ rfl
 have x1 := cells_row _ _ hX 1 _ rfl
 have x2 := cells_row _ _ hX 2 _ rfl
 have x3 := cells_row _ _ hX 3 _ rfl
 have x4 := cells_row _ _ hX 4 _ rfl
 clear h ra re ri ro hb hX
 obtain ⟨h1, k1⟩ := h1
 obtain ⟨h2, k2⟩ := h2
 obtain ⟨h3, k3⟩ := h3
 obtain ⟨N, hN⟩ : ∃ N, namedR g na ni no s = N := ⟨_, rfl⟩
 rw [hN]
 have HN := Lib.hid hN
 clear hN
 go_enter Try.func115, Try.ntmps115
 go_wp2_with fail
 obtain ⟨wb, hwb⟩ : ∃ x, w.alloc (.cells #[.string g.name, .slice aa g.actors.length ac, .slice ae g.edges.length ec, .slice ai g.ins.length ic, .slice ao g.outs.length oc] 26) = x := ⟨_, rfl⟩
 rw [hwb] at HB HXB x0 x1 x2 x3 x4 ⊢
 clear hwb
 go_loopw [11] (fun i wl => ∃ j : Nat, j ≤ na ∧ i = .int .i64 j ∧ wl = wb ∧ ((g.actors).take j).any (fun x => decide (x.name = s)) = false) (fun i _ => na - (intOf i).toNat)
 case atStart => exact ⟨0, Nat.zero_le _, rfl, rfl, by simp⟩
 case round =>
  obtain ⟨j, hj, rfl, rfl, hno⟩ := hrel
  have HNO := Lib.hid hno
  clear hno
  by_cases hlt : j < na
  ·
   have hlti : (j : Int) < na := by omega
   have hjl : j < (g.actors).length := by omega
   obtain ⟨b0, off, rfl, hcap, hb0, hrec⟩ := HRA.out.at (by omega)
   obtain ⟨cs, hcs, hPR, hcl⟩ := hrec j hjl
   obtain ⟨xs, rfl, -⟩ := hPR
   have c0 := cell_later HB.out (hcl 0 (by omega))
   simp at c0
   have hcapi : ((g.actors).length : Int) ≤ ac := by omega
   have hjli : (j : Int) < (g.actors).length := by omega
   clear hrec hcl hcs hb0 hcap
   by_cases e1 : (g.actors)[j].name = s
   ·
    have e1b := barr_yes e1
    have hyes := any_take_of (f := fun x : GActor => decide (x.name = s)) hjl hlt (by simp [e1])
    have HY := Lib.hid hyes
    clear hyes e1
    go_wp2
    go_ret
    exact ⟨by rw [← HN.out, namedR, HY.out]; simp, HB.out⟩
   ·
    have e1b := barr_no e1
    have hnx := any_take_next (f := fun x : GActor => decide (x.name = s)) hjl HNO.out (by simp [e1])
    have HX := Lib.hid hnx
    clear hnx e1
    go_wp2
    go_roundw
    case rel => exact ⟨j + 1, hlt, by go_num, by first | rfl | trivial, HX.out⟩
    case measure => simp [intOf]; omega
  ·
   obtain rfl : j = na := by omega
   have hlti : ¬ ((j : Int) < j) := by omega
   have HN1 := Lib.hid HNO.out
   clear HNO hj hlt
   go_wp2_with fail
   go_loopw [12] (fun i wl => ∃ j : Nat, j ≤ ni ∧ i = .int .i64 j ∧ wl = wr ∧ ((g.ins).take j).any (fun x => decide (x.name = s)) = false) (fun i _ => ni - (intOf i).toNat)
   case atStart => exact ⟨0, Nat.zero_le _, rfl, rfl, by simp⟩
   case round =>
    obtain ⟨j, hj, rfl, rfl, hno⟩ := hrel
    have HNO := Lib.hid hno
    clear hno
    by_cases hlt : j < ni
    ·
     have hlti : (j : Int) < ni := by omega
     have hjl : j < (g.ins).length := by omega
     obtain ⟨b0, off, rfl, hcap, hb0, hrec⟩ := HRI.out.at (by omega)
     obtain ⟨cs, hcs, hPR, hcl⟩ := hrec j hjl
     obtain rfl := hPR
     have c0 := cell_later HB.out (hcl 0 (by omega))
     simp at c0
     have hcapi : ((g.ins).length : Int) ≤ ic := by omega
     have hjli : (j : Int) < (g.ins).length := by omega
     clear hrec hcl hcs hb0 hcap
     by_cases e1 : (g.ins)[j].name = s
     ·
      have e1b := barr_yes e1
      have hyes := any_take_of (f := fun x : GPort => decide (x.name = s)) hjl hlt (by simp [e1])
      have HY := Lib.hid hyes
      clear hyes e1
      go_wp2
      go_ret
      exact ⟨by rw [← HN.out, namedR, HY.out]; simp, HB.out⟩
     ·
      have e1b := barr_no e1
      have hnx := any_take_next (f := fun x : GPort => decide (x.name = s)) hjl HNO.out (by simp [e1])
      have HX := Lib.hid hnx
      clear hnx e1
      go_wp2
      go_roundw
      case rel => exact ⟨j + 1, hlt, by go_num, by first | rfl | trivial, HX.out⟩
      case measure => simp [intOf]; omega
    ·
     obtain rfl : j = ni := by omega
     have hlti : ¬ ((j : Int) < j) := by omega
     have HN2 := Lib.hid HNO.out
     clear HNO hj hlt
     go_wp2_with fail
     go_loopw [13] (fun i wl => ∃ j : Nat, j ≤ no ∧ i = .int .i64 j ∧ wl = wr ∧ ((g.outs).take j).any (fun x => decide (x.name = s)) = false) (fun i _ => no - (intOf i).toNat)
     case atStart => exact ⟨0, Nat.zero_le _, rfl, rfl, by simp⟩
     case round =>
      obtain ⟨j, hj, rfl, rfl, hno⟩ := hrel
      have HNO := Lib.hid hno
      clear hno
      by_cases hlt : j < no
      ·
       have hlti : (j : Int) < no := by omega
       have hjl : j < (g.outs).length := by omega
       obtain ⟨b0, off, rfl, hcap, hb0, hrec⟩ := HRO.out.at (by omega)
       obtain ⟨cs, hcs, hPR, hcl⟩ := hrec j hjl
       obtain rfl := hPR
       have c0 := cell_later HB.out (hcl 0 (by omega))
       simp at c0
       have hcapi : ((g.outs).length : Int) ≤ oc := by omega
       have hjli : (j : Int) < (g.outs).length := by omega
       clear hrec hcl hcs hb0 hcap
       by_cases e1 : (g.outs)[j].name = s
       ·
        have e1b := barr_yes e1
        have hyes := any_take_of (f := fun x : GPort => decide (x.name = s)) hjl hlt (by simp [e1])
        have HY := Lib.hid hyes
        clear hyes e1
        go_wp2
        go_ret
        exact ⟨by rw [← HN.out, namedR, HY.out]; simp, HB.out⟩
       ·
        have e1b := barr_no e1
        have hnx := any_take_next (f := fun x : GPort => decide (x.name = s)) hjl HNO.out (by simp [e1])
        have HX := Lib.hid hnx
        clear hnx e1
        go_wp2
        go_roundw
        case rel => exact ⟨j + 1, hlt, by go_num, by first | rfl | trivial, HX.out⟩
        case measure => simp [intOf]; omega
      ·
       obtain rfl : j = no := by omega
       have hlti : ¬ ((j : Int) < j) := by omega
       have HN3 := Lib.hid HNO.out
       go_wp2
       go_ret
       exact ⟨by rw [← HN.out, namedR, HN1.out, HN2.out, HN3.out]; rfl, HB.out⟩
end Go.Proofs.Ytbmbfifempkhgaa

/- What is wrong with an actor, an edge, a port, as the reference tells it. -/
namespace Go.Proofs.Ytbmbfifempkhgaa
open Go.RowKit
/- the questions of one end of an edge: $1 $2 the fields' places, $3 $4 the fields, $5 the taken, $6 end's law, $7 the fact of taken, $8 the world, $9 below -/
def actorG (g : GGraph) : Prop := ∀ x ∈ g.actors, goodP x.tag x.params
set_option maxRecDepth 100000 in
set_option maxHeartbeats 2000000 in
theorem xactor_any (w : World) (v : Value) (g : GGraph) (i : Nat) (h : HasGraph w v g) (hs : GSized g) (hi : i < g.actors.length) (hi2 : i ≤ 1000000) : Calls Try.prog 104 #[v, .int .i64 (i : Int)] w (Tells (.int .i64 (actorR g i g.actors[i])) w) := by
 obtain ⟨va, ve, vi, vo, rfl, ra, re, ri, ro⟩ := h.shape
 obtain ⟨aa, ac, rfl⟩ := ra.slice
 obtain ⟨ae, ec, rfl⟩ := re.slice
 obtain ⟨ai, ic, rfl⟩ := ri.slice
 obtain ⟨ao, oc, rfl⟩ := ro.slice
 have HG := Lib.hid h
 have HRA := Lib.hid ra
 have HRE := Lib.hid re
 have HRI := Lib.hid ri
 have HRO := Lib.hid ro
 have hb := below_alloc w (.cells #[.string g.name, .slice aa g.actors.length ac, .slice ae g.edges.length ec, .slice ai g.ins.length ic, .slice ao g.outs.length oc] 26)
 have HB := Lib.hid hb
 have hX := heap_alloc_new w (.cells #[.string g.name, .slice aa g.actors.length ac, .slice ae g.edges.length ec, .slice ai g.ins.length ic, .slice ao g.outs.length oc] 26)
 have HXB := Lib.hid hX
 have x0 := cells_row _ _ hX 0 _ rfl
 have x1 := cells_row _ _ hX 1 _ rfl
 have x2 := cells_row _ _ hX 2 _ rfl
 have x3 := cells_row _ _ hX 3 _ rfl
 have x4 := cells_row _ _ hX 4 _ rfl
 clear h ra re ri ro hb hX
 obtain ⟨b0, off, rfl, hcap, hb0, hrec⟩ := HRA.out.at (by omega)
 obtain ⟨cs, hcs, hPR, hcl⟩ := hrec i hi
 obtain ⟨xs, rfl, hst⟩ := hPR
 have c0 := cell_later HB.out (hcl 0 (by omega))
 have c1 := cell_later HB.out (hcl 1 (by omega))
 have c2 := cell_later HB.out (hcl 2 (by omega))
 simp at c0 c1 c2
 obtain ⟨sa, sc, hxs⟩ := Ints.slice hst
 subst hxs
 have HST := Lib.hid hst
 obtain ⟨a, hae⟩ : ∃ a, g.actors[i] = a := ⟨_, rfl⟩
 have hnm := (hs.2.1 _ (List.getElem_mem hi)).1
 rw [hae] at c0 c1 c2 HST hnm ⊢
 have HNM := Lib.hid hnm
 have hcapi : (g.actors.length : Int) ≤ ac := by omega
 have hii : (i : Int) < g.actors.length := by omega
 have HII := Lib.hid hi
 obtain ⟨N, hN⟩ : ∃ N, actorR g i a = N := ⟨_, rfl⟩
 rw [hN]
 unfold actorR nameR at hN
 have HN := Lib.hid hN
 clear hN
 obtain ⟨E, hE⟩ : ∃ E, nameP a.name = E := ⟨_, rfl⟩
 obtain ⟨T, hT⟩ : ∃ T, namedR g i 0 0 a.name = T := ⟨_, rfl⟩
 have HE := Lib.hid hE
 have HT := Lib.hid hT
 clear hrec hcl hcs hst hb0 hcap hnm hE hT hae
 have hsz : (w.alloc (.cells #[.string g.name, .slice (some ⟨b0, off, none⟩) g.actors.length ac, .slice ae g.edges.length ec, .slice ai g.ins.length ic, .slice ao g.outs.length oc] 26)).heap.size = w.heap.size + 1 := by simp
 have hby := below_alloc (w.alloc (.cells #[.string g.name, .slice (some ⟨b0, off, none⟩) g.actors.length ac, .slice ae g.edges.length ec, .slice ai g.ins.length ic, .slice ao g.outs.length oc] 26)) (.cells #[.string a.name, .int .u8 a.tag, .slice sa a.params.length sc] 57)
 have hY := heap_alloc_new (w.alloc (.cells #[.string g.name, .slice (some ⟨b0, off, none⟩) g.actors.length ac, .slice ae g.edges.length ec, .slice ai g.ins.length ic, .slice ao g.outs.length oc] 26)) (.cells #[.string a.name, .int .u8 a.tag, .slice sa a.params.length sc] 57)
 rw [hsz] at hY
 replace x0 := cell_later hby x0
 replace x1 := cell_later hby x1
 replace x2 := cell_later hby x2
 replace x3 := cell_later hby x3
 replace x4 := cell_later hby x4
 have HBY := Lib.hid (HB.out.trans (hby.mono HB.out.size))
 clear hby hsz
 have y0 := cells_row _ _ hY 0 _ rfl
 have y1 := cells_row _ _ hY 1 _ rfl
 have y2 := cells_row _ _ hY 2 _ rfl
 clear hY
 go_enter Try.func104, Try.ntmps104
 go_wp2_with fail
 obtain ⟨wy, hwy⟩ : ∃ x, (w.alloc (.cells #[.string g.name, .slice (some ⟨b0, off, none⟩) g.actors.length ac, .slice ae g.edges.length ec, .slice ai g.ins.length ic, .slice ao g.outs.length oc] 26)).alloc (.cells #[.string a.name, .int .u8 a.tag, .slice sa a.params.length sc] 57) = x := ⟨_, rfl⟩
 rw [hwy] at HBY x0 x1 x2 x3 x4 ⊢
 rw [hwy] at y0 y1 y2
 clear hwy c0 c1 c2
 refine (xname_any _ _ HNM.out).mono ?_
 rintro e _ ⟨rfl, rfl⟩
 rw [HE.out]
 cases E with
 | false =>
  have e : N = 82 := by rw [← HN.out, HE.out]; simp
  subst e
  go_wp2
  go_ret
  exact ⟨rfl, HBY.out⟩
 | true =>
  go_wp2_with fail
  refine (named_any _ _ g i 0 0 a.name (HG.out.below HBY.out) ⟨by have := HII.out; omega, hi2⟩ ⟨Nat.zero_le _, by decide⟩ ⟨Nat.zero_le _, by decide⟩).mono ?_
  rintro e w3 ⟨rfl, hb3⟩
  rw [HT.out]
  cases T with
  | true =>
   have e : N = 83 := by rw [← HN.out, HE.out, HT.out]; simp
   subst e
   have HB3 := Lib.hid (HBY.out.trans (hb3.mono HBY.out.size))
   clear hb3
   go_wp2
   go_ret
   exact ⟨rfl, HB3.out⟩
  | false =>
   have hN : (if goodP a.tag a.params then 0 else errP a.tag) = N := by
    rw [← HN.out, HE.out, HT.out]
    simp
   have HN2 := Lib.hid hN
   have y1 := cell_later hb3 y1
   have y2 := cell_later hb3 y2
   have HB3 := Lib.hid (HBY.out.trans (hb3.mono HBY.out.size))
   clear hb3 y0 hN
   go_wp2_with fail
   by_cases hg : goodP a.tag a.params
   ·
    have e : N = 0 := by rw [← HN2.out, if_pos hg]
    subst e
    refine (rof_ok _ _ sa _ sc a.params hg (HST.out.below HB3.out)).mono ?_
    rintro e w4 ⟨v1, v2, rfl, o1, o2, hb4⟩
    obtain ⟨s1, k1, rfl⟩ := owns_slice o1
    obtain ⟨s2, k2, rfl⟩ := owns_slice o2
    have HB4 := Lib.hid (HB3.out.trans (hb4.mono HB3.out.size))
    clear hb4 o1 o2
    go_wp2
    go_ret
    exact ⟨rfl, HB4.out⟩
   ·
    have e : errP a.tag = N := by rw [← HN2.out, if_neg hg]
    refine (rof_no _ _ sa _ sc a.params hg (HST.out.below HB3.out)).mono ?_
    rw [e]
    rintro e w4 ⟨rfl, hb4⟩
    have HB4 := Lib.hid (HB3.out.trans (hb4.mono HB3.out.size))
    clear hb4 hg
    go_wp2
    go_ret
    exact ⟨rfl, HB4.out⟩
/- an edge's cells behind its load, and the questions of one end: $1 what follows (the first call's contract's name), $2.. -/
set_option maxRecDepth 100000 in
set_option maxHeartbeats 4000000 in
theorem xedge_any (w : World) (v : Value) (g : GGraph) (i : Nat) (h : HasGraph w v g) (hg : actorG g) (hi : i < g.edges.length) (hi2 : i ≤ 1000000) : Calls Try.prog 105 #[v, .int .i64 (i : Int)] w (fun e w' => ∃ k, e = .returned (.tuple #[.int .i64 (edgeR g i g.edges[i]), .int .i64 k]) ∧ Below w.heap.size w w') := by
 obtain ⟨va, ve, vi, vo, rfl, ra, re, ri, ro⟩ := h.shape
 obtain ⟨aa, ac, rfl⟩ := ra.slice
 obtain ⟨ae, ec, rfl⟩ := re.slice
 obtain ⟨ai, ic, rfl⟩ := ri.slice
 obtain ⟨ao, oc, rfl⟩ := ro.slice
 have HG := Lib.hid h
 have HRA := Lib.hid ra
 have HRE := Lib.hid re
 have HRI := Lib.hid ri
 have HRO := Lib.hid ro
 have hb := below_alloc w (.cells #[.string g.name, .slice aa g.actors.length ac, .slice ae g.edges.length ec, .slice ai g.ins.length ic, .slice ao g.outs.length oc] 26)
 have HB := Lib.hid hb
 have hX := heap_alloc_new w (.cells #[.string g.name, .slice aa g.actors.length ac, .slice ae g.edges.length ec, .slice ai g.ins.length ic, .slice ao g.outs.length oc] 26)
 have HXB := Lib.hid hX
 have x0 := cells_row _ _ hX 0 _ rfl
 have x1 := cells_row _ _ hX 1 _ rfl
 have x2 := cells_row _ _ hX 2 _ rfl
 have x3 := cells_row _ _ hX 3 _ rfl
 have x4 := cells_row _ _ hX 4 _ rfl
 clear h ra re ri ro hb hX
 obtain ⟨b0, off, rfl, hcap, hb0, hrec⟩ := HRE.out.at (by omega)
 obtain ⟨cs, hcs, hPR, hcl⟩ := hrec i hi
 obtain ⟨xs, rfl, hst⟩ := hPR
 have c0 := cell_later HB.out (hcl 0 (by omega))
 have c1 := cell_later HB.out (hcl 1 (by omega))
 have c2 := cell_later HB.out (hcl 2 (by omega))
 have c3 := cell_later HB.out (hcl 3 (by omega))
 have c4 := cell_later HB.out (hcl 4 (by omega))
 simp at c0 c1 c2 c3 c4
 obtain ⟨sa, sc, hxs⟩ := Ints.slice hst
 subst hxs
 obtain ⟨a, hae⟩ : ∃ a, g.edges[i] = a := ⟨_, rfl⟩
 rw [hae] at c0 c1 c2 c3 c4 ⊢
 have hcapi : (g.edges.length : Int) ≤ ec := by omega
 have hii : (i : Int) < g.edges.length := by omega
 have HII := Lib.hid hi
 have HGD := Lib.hid hg
 obtain ⟨N, hN⟩ : ∃ N, edgeR g i a = N := ⟨_, rfl⟩
 rw [hN]
 unfold edgeR at hN
 obtain ⟨t1, ht1⟩ : ∃ T, outT g i 0 a.src a.sport = T := ⟨_, rfl⟩
 obtain ⟨t2, ht2⟩ : ∃ T, inT g i 0 a.dst a.dport = T := ⟨_, rfl⟩
 rw [ht1, ht2] at hN
 obtain ⟨E1, hE1⟩ : ∃ T, endR g (ratesO g) a.src a.sport t1 = T := ⟨_, rfl⟩
 obtain ⟨E2, hE2⟩ : ∃ T, endR g (ratesI g) a.dst a.dport t2 = T := ⟨_, rfl⟩
 rw [hE1, hE2] at hN
 have HN := Lib.hid hN
 have HT1 := Lib.hid ht1
 have HT2 := Lib.hid ht2
 have HE1 := Lib.hid hE1
 have HE2 := Lib.hid hE2
 clear hrec hcl hcs hst hb0 hcap hae hN ht1 ht2 hE1 hE2 hg
 have hsz : (w.alloc (.cells #[.string g.name, .slice aa g.actors.length ac, .slice (some ⟨b0, off, none⟩) g.edges.length ec, .slice ai g.ins.length ic, .slice ao g.outs.length oc] 26)).heap.size = w.heap.size + 1 := by simp
 have hby := below_alloc (w.alloc (.cells #[.string g.name, .slice aa g.actors.length ac, .slice (some ⟨b0, off, none⟩) g.edges.length ec, .slice ai g.ins.length ic, .slice ao g.outs.length oc] 26)) (.cells #[.int .i64 a.src, .int .i64 a.sport, .int .i64 a.dst, .int .i64 a.dport, .slice sa a.start.length sc] 63)
 have hY := heap_alloc_new (w.alloc (.cells #[.string g.name, .slice aa g.actors.length ac, .slice (some ⟨b0, off, none⟩) g.edges.length ec, .slice ai g.ins.length ic, .slice ao g.outs.length oc] 26)) (.cells #[.int .i64 a.src, .int .i64 a.sport, .int .i64 a.dst, .int .i64 a.dport, .slice sa a.start.length sc] 63)
 rw [hsz] at hY
 replace x0 := cell_later hby x0
 replace x1 := cell_later hby x1
 replace x2 := cell_later hby x2
 replace x3 := cell_later hby x3
 replace x4 := cell_later hby x4
 have HBY := Lib.hid (HB.out.trans (hby.mono HB.out.size))
 clear hby hsz
 have y0 := cells_row _ _ hY 0 _ rfl
 have y1 := cells_row _ _ hY 1 _ rfl
 have y2 := cells_row _ _ hY 2 _ rfl
 have y3 := cells_row _ _ hY 3 _ rfl
 have y4 := cells_row _ _ hY 4 _ rfl
 clear hY
 go_enter Try.func105, Try.ntmps105
 go_wp2_with fail
 obtain ⟨wy, hwy⟩ : ∃ x, (w.alloc (.cells #[.string g.name, .slice aa g.actors.length ac, .slice (some ⟨b0, off, none⟩) g.edges.length ec, .slice ai g.ins.length ic, .slice ao g.outs.length oc] 26)).alloc (.cells #[.int .i64 a.src, .int .i64 a.sport, .int .i64 a.dst, .int .i64 a.dport, .slice sa a.start.length sc] 63) = x := ⟨_, rfl⟩
 rw [hwy] at HBY x0 x1 x2 x3 x4 ⊢
 rw [hwy] at y0 y1 y2 y3 y4
 clear hwy c0 c1 c2 c3 c4
 obtain ⟨Y, hYe⟩ : ∃ x, w.heap.size + 1 = x := ⟨_, rfl⟩
 rw [hYe] at y0 y1 y2 y3 y4 ⊢
 clear hYe
 refine wp_region_lex1 (fun w' => (w'.cell? ⟨w.heap.size, 0, none⟩ = some (.string g.name) ∧ w'.cell? ⟨w.heap.size, 1, none⟩ = some (.slice aa g.actors.length ac) ∧ w'.cell? ⟨w.heap.size, 2, none⟩ = some (.slice (some ⟨b0, off, none⟩) g.edges.length ec) ∧ w'.cell? ⟨w.heap.size, 3, none⟩ = some (.slice ai g.ins.length ic) ∧ w'.cell? ⟨w.heap.size, 4, none⟩ = some (.slice ao g.outs.length oc)) ∧ w'.cell? ⟨Y, 0, none⟩ = some (.int .i64 a.src) ∧ w'.cell? ⟨Y, 1, none⟩ = some (.int .i64 a.sport))
  [0, 1, 2, 3, 4, 5, 6, 7, 8, 9, 10] [] 11 [12, 13] (by kernel_rfl) (by kernel_rfl) (by kernel_rfl) rfl (fun _ _ hx h => ⟨⟨hx.cell h.1.1, hx.cell h.1.2.1, hx.cell h.1.2.2.1, hx.cell h.1.2.2.2.1, hx.cell h.1.2.2.2.2⟩, hx.cell h.2.1, hx.cell h.2.2⟩) ⟨⟨x0, x1, x2, x3, x4⟩, y0, y1⟩ ?_
 intro Q' hQ'
 simp only [pickOps, List.flatMap_cons, List.flatMap_nil, List.drop_succ_cons, List.drop_zero, List.take_succ_cons, List.take_zero, List.cons_append, List.nil_append, List.append_nil]
 repeat (first
  | (refine wpReads_skip (by rfl) ?_; (try simp only [Act.put, List.setIfInBounds_toArray, List.set_cons_zero, List.set_cons_succ]))
  | (refine wpReads_cons ?_ (by rfl) (by rfl) ?_ ?_; rotate_left; (intro wz hz; (try dsimp only at hz); go_simp; try with_reducible rfl); (try simp only [Act.put, List.setIfInBounds_toArray, List.set_cons_zero, List.set_cons_succ]))
  | (refine wpReads_any ?_ (by rfl) ?_ ?_; rotate_left; (intro wz; go_simp; try with_reducible rfl); (try simp only [Act.put, List.setIfInBounds_toArray, List.set_cons_zero, List.set_cons_succ])))
 refine wpReads_nil ?_
 go_wp2_with fail
 refine (outTaken_any _ _ g i 0 a.src a.sport (HG.out.below (HBY.out).drew) (by have := HII.out; omega) (Nat.zero_le _) hi2 (by decide)).mono ?_
 rintro e w1 ⟨rfl, hb1⟩
 rw [HT1.out]
 replace x0 := cell_later hb1 x0
 replace x1 := cell_later hb1 x1
 replace x2 := cell_later hb1 x2
 replace x3 := cell_later hb1 x3
 replace x4 := cell_later hb1 x4
 replace y0 := cell_later hb1 y0
 replace y1 := cell_later hb1 y1
 replace y2 := cell_later hb1 y2
 replace y3 := cell_later hb1 y3
 replace y4 := cell_later hb1 y4
 have HBQ := Lib.hid ((HBY.out).drew.trans (hb1.mono (HBY.out).drew.size))
 clear hb1
 go_wp2
 refine ⟨⟨⟨x0, x1, x2, x3, x4⟩, y0, y1⟩, ?_⟩
 go_wp2_with fail
 refine (end_true _ _ g a.src a.sport _ (HG.out.below HBQ.out) HGD.out).mono ?_
 rintro e w2 ⟨rfl, hb2⟩
 replace x0 := cell_later hb2 x0
 replace x1 := cell_later hb2 x1
 replace x2 := cell_later hb2 x2
 replace x3 := cell_later hb2 x3
 replace x4 := cell_later hb2 x4
 replace y0 := cell_later hb2 y0
 replace y1 := cell_later hb2 y1
 replace y2 := cell_later hb2 y2
 replace y3 := cell_later hb2 y3
 replace y4 := cell_later hb2 y4
 have HBR := Lib.hid (HBQ.out.trans (hb2.mono HBQ.out.size))
 clear hb2 HBQ
 rw [HE1.out]
 by_cases z1 : E1 = 0
 ·
  rw [z1]
  have HZ1 := Lib.hid z1
  clear z1
  go_wp2_with fail
  clear HBY
  have HBZ := Lib.hid HBR.out
  clear HBR
  refine wp_region_lex1 (fun w' => (w'.cell? ⟨w.heap.size, 0, none⟩ = some (.string g.name) ∧ w'.cell? ⟨w.heap.size, 1, none⟩ = some (.slice aa g.actors.length ac) ∧ w'.cell? ⟨w.heap.size, 2, none⟩ = some (.slice (some ⟨b0, off, none⟩) g.edges.length ec) ∧ w'.cell? ⟨w.heap.size, 3, none⟩ = some (.slice ai g.ins.length ic) ∧ w'.cell? ⟨w.heap.size, 4, none⟩ = some (.slice ao g.outs.length oc)) ∧ w'.cell? ⟨Y, 2, none⟩ = some (.int .i64 a.dst) ∧ w'.cell? ⟨Y, 3, none⟩ = some (.int .i64 a.dport))
   [0, 1, 2, 3, 4, 5, 6, 7, 8, 9, 10] [] 11 [12, 13] (by kernel_rfl) (by kernel_rfl) (by kernel_rfl) rfl (fun _ _ hx h => ⟨⟨hx.cell h.1.1, hx.cell h.1.2.1, hx.cell h.1.2.2.1, hx.cell h.1.2.2.2.1, hx.cell h.1.2.2.2.2⟩, hx.cell h.2.1, hx.cell h.2.2⟩) ⟨⟨x0, x1, x2, x3, x4⟩, y2, y3⟩ ?_
  intro Q' hQ'
  simp only [pickOps, List.flatMap_cons, List.flatMap_nil, List.drop_succ_cons, List.drop_zero, List.take_succ_cons, List.take_zero, List.cons_append, List.nil_append, List.append_nil]
  repeat (first
   | (refine wpReads_skip (by rfl) ?_; (try simp only [Act.put, List.setIfInBounds_toArray, List.set_cons_zero, List.set_cons_succ]))
   | (refine wpReads_cons ?_ (by rfl) (by rfl) ?_ ?_; rotate_left; (intro wz hz; (try dsimp only at hz); go_simp; try with_reducible rfl); (try simp only [Act.put, List.setIfInBounds_toArray, List.set_cons_zero, List.set_cons_succ]))
   | (refine wpReads_any ?_ (by rfl) ?_ ?_; rotate_left; (intro wz; go_simp; try with_reducible rfl); (try simp only [Act.put, List.setIfInBounds_toArray, List.set_cons_zero, List.set_cons_succ])))
  refine wpReads_nil ?_
  go_wp2_with fail
  refine (inTaken_any _ _ g i 0 a.dst a.dport (HG.out.below (HBZ.out).drew) (by have := HII.out; omega) (Nat.zero_le _) hi2 (by decide)).mono ?_
  rintro e w1 ⟨rfl, hb1⟩
  rw [HT2.out]
  replace x0 := cell_later hb1 x0
  replace x1 := cell_later hb1 x1
  replace x2 := cell_later hb1 x2
  replace x3 := cell_later hb1 x3
  replace x4 := cell_later hb1 x4
  replace y0 := cell_later hb1 y0
  replace y1 := cell_later hb1 y1
  replace y2 := cell_later hb1 y2
  replace y3 := cell_later hb1 y3
  replace y4 := cell_later hb1 y4
  have HBQ := Lib.hid ((HBZ.out).drew.trans (hb1.mono (HBZ.out).drew.size))
  clear hb1
  go_wp2
  refine ⟨⟨⟨x0, x1, x2, x3, x4⟩, y2, y3⟩, ?_⟩
  go_wp2_with fail
  refine (end_false _ _ g a.dst a.dport _ (HG.out.below HBQ.out) HGD.out).mono ?_
  rintro e w2 ⟨rfl, hb2⟩
  replace x0 := cell_later hb2 x0
  replace x1 := cell_later hb2 x1
  replace x2 := cell_later hb2 x2
  replace x3 := cell_later hb2 x3
  replace x4 := cell_later hb2 x4
  replace y0 := cell_later hb2 y0
  replace y1 := cell_later hb2 y1
  replace y2 := cell_later hb2 y2
  replace y3 := cell_later hb2 y3
  replace y4 := cell_later hb2 y4
  have HBR := Lib.hid (HBQ.out.trans (hb2.mono HBQ.out.size))
  clear hb2 HBQ
  rw [HE2.out]
  by_cases z2 : E2 = 0
  ·
   rw [z2]
   have HZ2 := Lib.hid z2
   clear z2
   by_cases hl : 256 < a.start.length
   ·
    have e : N = 88 := by rw [← HN.out, HZ1.out, HZ2.out, if_neg (by simp), if_neg (by simp), if_pos hl]
    subst e
    have hli : (256 : Int) < a.start.length := by omega
    go_wp2
    go_ret2
    exact ⟨_, rfl, HBR.out⟩
   ·
    have e : N = 0 := by rw [← HN.out, HZ1.out, HZ2.out, if_neg (by simp), if_neg (by simp), if_neg hl]
    subst e
    have hli : ¬ (256 : Int) < a.start.length := by omega
    go_wp2
    go_ret2
    exact ⟨_, rfl, HBR.out⟩
  ·
   have e : E2 = N := by rw [← HN.out, HZ1.out, if_neg (by simp), if_pos z2]
   have hb : (E2 != 0) = true := by rw [bne_iff_ne]; exact z2
   rw [e] at hb ⊢
   clear z2 HE2
   go_wp2
   go_ret2
   exact ⟨_, rfl, HBR.out⟩
 ·
  have e : E1 = N := by rw [← HN.out, if_pos z1]
  have hb : (E1 != 0) = true := by rw [bne_iff_ne]; exact z1
  rw [e] at hb ⊢
  clear z1 HE1
  go_wp2
  go_ret2
  exact ⟨_, rfl, HBR.out⟩
end Go.Proofs.Ytbmbfifempkhgaa

/- What is wrong with an input or an output, as the reference tells it. -/
namespace Go.Proofs.Ytbmbfifempkhgaa
open Go.RowKit
set_option maxRecDepth 100000 in
set_option maxHeartbeats 4000000 in
theorem xin_any (w : World) (v : Value) (g : GGraph) (i : Nat) (h : HasGraph w v g) (hs : GSized g) (hg : actorG g) (hi : i < g.ins.length) (hf : g.actors.length ≤ 1000000 ∧ g.edges.length ≤ 1000000 ∧ g.ins.length ≤ 1000000 ∧ g.outs.length ≤ 1000000) : Calls Try.prog 106 #[v, .int .i64 (i : Int)] w (fun e w' => ∃ k, e = .returned (.tuple #[.int .i64 (inR g i g.ins[i]), .int .i64 k]) ∧ Below w.heap.size w w') := by
 obtain ⟨va, ve, vi, vo, rfl, ra, re, ri, ro⟩ := h.shape
 obtain ⟨aa, ac, rfl⟩ := ra.slice
 obtain ⟨ae, ec, rfl⟩ := re.slice
 obtain ⟨ai, ic, rfl⟩ := ri.slice
 obtain ⟨ao, oc, rfl⟩ := ro.slice
 have HG := Lib.hid h
 have HRA := Lib.hid ra
 have HRE := Lib.hid re
 have HRI := Lib.hid ri
 have HRO := Lib.hid ro
 have hb := below_alloc w (.cells #[.string g.name, .slice aa g.actors.length ac, .slice ae g.edges.length ec, .slice ai g.ins.length ic, .slice ao g.outs.length oc] 26)
 have HB := Lib.hid hb
 have hX := heap_alloc_new w (.cells #[.string g.name, .slice aa g.actors.length ac, .slice ae g.edges.length ec, .slice ai g.ins.length ic, .slice ao g.outs.length oc] 26)
 have HXB := Lib.hid hX
 have x0 := cells_row _ _ hX 0 _ rfl
 have x1 := cells_row _ _ hX 1 _ rfl
 have x2 := cells_row _ _ hX 2 _ rfl
 have x3 := cells_row _ _ hX 3 _ rfl
 have x4 := cells_row _ _ hX 4 _ rfl
 clear h ra re ri ro hb hX
 obtain ⟨fa, fe, fi, fo⟩ := hf
 obtain ⟨b0, off, rfl, hcap, hb0, hrec⟩ := HRI.out.at (by omega)
 obtain ⟨cs, hcs, hPR, hcl⟩ := hrec i hi
 obtain rfl := hPR
 have c0 := cell_later HB.out (hcl 0 (by omega))
 have c1 := cell_later HB.out (hcl 1 (by omega))
 have c2 := cell_later HB.out (hcl 2 (by omega))
 simp at c0 c1 c2
 obtain ⟨a, hae⟩ : ∃ a, g.ins[i] = a := ⟨_, rfl⟩
 have hnm := hs.2.2.1 _ (List.getElem_mem hi)
 rw [hae] at c0 c1 c2 hnm ⊢
 have HNM := Lib.hid hnm
 have hcapi : (g.ins.length : Int) ≤ ic := by omega
 have hii : (i : Int) < g.ins.length := by omega
 have HII := Lib.hid hi
 have HGD := Lib.hid hg
 obtain ⟨N, hN⟩ : ∃ N, inR g i a = N := ⟨_, rfl⟩
 rw [hN]
 unfold inR nameR at hN
 obtain ⟨E, hE⟩ : ∃ E, nameP a.name = E := ⟨_, rfl⟩
 obtain ⟨T, hT⟩ : ∃ T, namedR g g.actors.length i 0 a.name = T := ⟨_, rfl⟩
 obtain ⟨t1, ht1⟩ : ∃ T, inT g g.edges.length i a.actor a.port = T := ⟨_, rfl⟩
 rw [hE, hT, ht1] at hN
 obtain ⟨E1, hE1⟩ : ∃ T, endR g (ratesI g) a.actor a.port t1 = T := ⟨_, rfl⟩
 rw [hE1] at hN
 have HN := Lib.hid hN
 have HE := Lib.hid hE
 have HT := Lib.hid hT
 have HT1 := Lib.hid ht1
 have HE1 := Lib.hid hE1
 clear hrec hcl hcs hb0 hcap hae hN ht1 hE1 hg hE hT hnm
 have hsz : (w.alloc (.cells #[.string g.name, .slice aa g.actors.length ac, .slice ae g.edges.length ec, .slice (some ⟨b0, off, none⟩) g.ins.length ic, .slice ao g.outs.length oc] 26)).heap.size = w.heap.size + 1 := by simp
 have hby := below_alloc (w.alloc (.cells #[.string g.name, .slice aa g.actors.length ac, .slice ae g.edges.length ec, .slice (some ⟨b0, off, none⟩) g.ins.length ic, .slice ao g.outs.length oc] 26)) (.cells #[.string a.name, .int .i64 a.actor, .int .i64 a.port] 65)
 have hY := heap_alloc_new (w.alloc (.cells #[.string g.name, .slice aa g.actors.length ac, .slice ae g.edges.length ec, .slice (some ⟨b0, off, none⟩) g.ins.length ic, .slice ao g.outs.length oc] 26)) (.cells #[.string a.name, .int .i64 a.actor, .int .i64 a.port] 65)
 rw [hsz] at hY
 replace x0 := cell_later hby x0
 replace x1 := cell_later hby x1
 replace x2 := cell_later hby x2
 replace x3 := cell_later hby x3
 replace x4 := cell_later hby x4
 have HBY := Lib.hid (HB.out.trans (hby.mono HB.out.size))
 clear hby hsz
 have y0 := cells_row _ _ hY 0 _ rfl
 have y1 := cells_row _ _ hY 1 _ rfl
 have y2 := cells_row _ _ hY 2 _ rfl
 clear hY
 go_enter Try.func106, Try.ntmps106
 go_wp2_with fail
 obtain ⟨wy, hwy⟩ : ∃ x, (w.alloc (.cells #[.string g.name, .slice aa g.actors.length ac, .slice ae g.edges.length ec, .slice (some ⟨b0, off, none⟩) g.ins.length ic, .slice ao g.outs.length oc] 26)).alloc (.cells #[.string a.name, .int .i64 a.actor, .int .i64 a.port] 65) = x := ⟨_, rfl⟩
 rw [hwy] at HBY x0 x1 x2 x3 x4 ⊢
 rw [hwy] at y0 y1 y2
 clear hwy c0 c1 c2
 obtain ⟨Y, hYe⟩ : ∃ x, w.heap.size + 1 = x := ⟨_, rfl⟩
 rw [hYe] at y0 y1 y2 ⊢
 clear hYe
 refine (xname_any _ _ HNM.out).mono ?_
 rintro e _ ⟨rfl, rfl⟩
 rw [HE.out]
 cases E with
 | false =>
  have e : N = 82 := by rw [← HN.out]; simp
  subst e
  go_wp2
  go_ret2
  exact ⟨_, rfl, HBY.out⟩
 | true =>
  go_wp2_with fail
  refine (named_any _ _ g g.actors.length i 0 a.name (HG.out.below HBY.out) ⟨Nat.le_refl _, fa⟩ ⟨by have := HII.out; omega, by have := HII.out; omega⟩ ⟨Nat.zero_le _, by decide⟩).mono ?_
  rintro e w3 ⟨rfl, hb3⟩
  rw [HT.out]
  cases T with
  | true =>
   have e : N = 83 := by rw [← HN.out]; simp
   subst e
   have HB3 := Lib.hid (HBY.out.trans (hb3.mono HBY.out.size))
   clear hb3
   go_wp2
   go_ret2
   exact ⟨_, rfl, HB3.out⟩
  | false =>
   have e : E1 = N := by rw [← HN.out]; simp
   have HE3 := Lib.hid e
   replace x0 := cell_later hb3 x0
   replace x1 := cell_later hb3 x1
   replace x2 := cell_later hb3 x2
   replace x3 := cell_later hb3 x3
   replace x4 := cell_later hb3 x4
   replace y1 := cell_later hb3 y1
   replace y2 := cell_later hb3 y2
   have HB3 := Lib.hid (HBY.out.trans (hb3.mono HBY.out.size))
   clear hb3 y0 e HBY
   go_wp2_with fail
   refine wp_region_lex1 (fun w' => (w'.cell? ⟨w.heap.size, 0, none⟩ = some (.string g.name) ∧ w'.cell? ⟨w.heap.size, 1, none⟩ = some (.slice aa g.actors.length ac) ∧ w'.cell? ⟨w.heap.size, 2, none⟩ = some (.slice ae g.edges.length ec) ∧ w'.cell? ⟨w.heap.size, 3, none⟩ = some (.slice (some ⟨b0, off, none⟩) g.ins.length ic) ∧ w'.cell? ⟨w.heap.size, 4, none⟩ = some (.slice ao g.outs.length oc)) ∧ w'.cell? ⟨Y, 1, none⟩ = some (.int .i64 a.actor) ∧ w'.cell? ⟨Y, 2, none⟩ = some (.int .i64 a.port))
    [0, 1, 2, 3, 4, 5, 6, 7, 8, 9, 10, 11, 12, 13] [] 14 [15, 16, 17] (by kernel_rfl) (by kernel_rfl) (by kernel_rfl) rfl (fun _ _ hx h => ⟨⟨hx.cell h.1.1, hx.cell h.1.2.1, hx.cell h.1.2.2.1, hx.cell h.1.2.2.2.1, hx.cell h.1.2.2.2.2⟩, hx.cell h.2.1, hx.cell h.2.2⟩) ⟨⟨x0, x1, x2, x3, x4⟩, y1, y2⟩ ?_
   intro Q' hQ'
   simp only [pickOps, List.flatMap_cons, List.flatMap_nil, List.drop_succ_cons, List.drop_zero, List.take_succ_cons, List.take_zero, List.cons_append, List.nil_append, List.append_nil]
   repeat (first
    | (refine wpReads_skip (by rfl) ?_; (try simp only [Act.put, List.setIfInBounds_toArray, List.set_cons_zero, List.set_cons_succ]))
    | (refine wpReads_cons ?_ (by rfl) (by rfl) ?_ ?_; rotate_left; (intro wz hz; (try dsimp only at hz); go_simp; try with_reducible rfl); (try simp only [Act.put, List.setIfInBounds_toArray, List.set_cons_zero, List.set_cons_succ]))
    | (refine wpReads_any ?_ (by rfl) ?_ ?_; rotate_left; (intro wz; go_simp; try with_reducible rfl); (try simp only [Act.put, List.setIfInBounds_toArray, List.set_cons_zero, List.set_cons_succ])))
   refine wpReads_nil ?_
   go_wp2_with fail
   refine (inTaken_any _ _ g g.edges.length i a.actor a.port (HG.out.below HB3.out.drew) (Nat.le_refl _) (by have := HII.out; omega) fe (by have := HII.out; omega)).mono ?_
   rintro e w4 ⟨rfl, hb4⟩
   rw [HT1.out]
   replace x0 := cell_later hb4 x0
   replace x1 := cell_later hb4 x1
   replace x2 := cell_later hb4 x2
   replace x3 := cell_later hb4 x3
   replace x4 := cell_later hb4 x4
   replace y1 := cell_later hb4 y1
   replace y2 := cell_later hb4 y2
   have HB4 := Lib.hid (HB3.out.drew.trans (hb4.mono HB3.out.drew.size))
   clear hb4
   go_wp2
   refine ⟨⟨⟨x0, x1, x2, x3, x4⟩, y1, y2⟩, ?_⟩
   go_wp2_with fail
   refine (end_false _ _ g a.actor a.port _ (HG.out.below HB4.out) HGD.out).mono ?_
   rintro e w5 ⟨rfl, hb5⟩
   rw [HE1.out, HE3.out]
   have HB5 := Lib.hid (HB4.out.trans (hb5.mono HB4.out.size))
   clear hb5 HE1 HE3
   go_wp2
   go_ret2
   exact ⟨_, rfl, HB5.out⟩
set_option maxRecDepth 100000 in
set_option maxHeartbeats 4000000 in
theorem xout_any (w : World) (v : Value) (g : GGraph) (i : Nat) (h : HasGraph w v g) (hs : GSized g) (hg : actorG g) (hi : i < g.outs.length) (hf : g.actors.length ≤ 1000000 ∧ g.edges.length ≤ 1000000 ∧ g.ins.length ≤ 1000000 ∧ g.outs.length ≤ 1000000) : Calls Try.prog 107 #[v, .int .i64 (i : Int)] w (fun e w' => ∃ k, e = .returned (.tuple #[.int .i64 (outR g i g.outs[i]), .int .i64 k]) ∧ Below w.heap.size w w') := by
 obtain ⟨va, ve, vi, vo, rfl, ra, re, ri, ro⟩ := h.shape
 obtain ⟨aa, ac, rfl⟩ := ra.slice
 obtain ⟨ae, ec, rfl⟩ := re.slice
 obtain ⟨ai, ic, rfl⟩ := ri.slice
 obtain ⟨ao, oc, rfl⟩ := ro.slice
 have HG := Lib.hid h
 have HRA := Lib.hid ra
 have HRE := Lib.hid re
 have HRI := Lib.hid ri
 have HRO := Lib.hid ro
 have hb := below_alloc w (.cells #[.string g.name, .slice aa g.actors.length ac, .slice ae g.edges.length ec, .slice ai g.ins.length ic, .slice ao g.outs.length oc] 26)
 have HB := Lib.hid hb
 have hX := heap_alloc_new w (.cells #[.string g.name, .slice aa g.actors.length ac, .slice ae g.edges.length ec, .slice ai g.ins.length ic, .slice ao g.outs.length oc] 26)
 have HXB := Lib.hid hX
 have x0 := cells_row _ _ hX 0 _ rfl
 have x1 := cells_row _ _ hX 1 _ rfl
 have x2 := cells_row _ _ hX 2 _ rfl
 have x3 := cells_row _ _ hX 3 _ rfl
 have x4 := cells_row _ _ hX 4 _ rfl
 clear h ra re ri ro hb hX
 obtain ⟨fa, fe, fi, fo⟩ := hf
 obtain ⟨b0, off, rfl, hcap, hb0, hrec⟩ := HRO.out.at (by omega)
 obtain ⟨cs, hcs, hPR, hcl⟩ := hrec i hi
 obtain rfl := hPR
 have c0 := cell_later HB.out (hcl 0 (by omega))
 have c1 := cell_later HB.out (hcl 1 (by omega))
 have c2 := cell_later HB.out (hcl 2 (by omega))
 simp at c0 c1 c2
 obtain ⟨a, hae⟩ : ∃ a, g.outs[i] = a := ⟨_, rfl⟩
 have hnm := hs.2.2.2 _ (List.getElem_mem hi)
 rw [hae] at c0 c1 c2 hnm ⊢
 have HNM := Lib.hid hnm
 have hcapi : (g.outs.length : Int) ≤ oc := by omega
 have hii : (i : Int) < g.outs.length := by omega
 have HII := Lib.hid hi
 have HGD := Lib.hid hg
 obtain ⟨N, hN⟩ : ∃ N, outR g i a = N := ⟨_, rfl⟩
 rw [hN]
 unfold outR nameR at hN
 obtain ⟨E, hE⟩ : ∃ E, nameP a.name = E := ⟨_, rfl⟩
 obtain ⟨T, hT⟩ : ∃ T, namedR g g.actors.length g.ins.length i a.name = T := ⟨_, rfl⟩
 obtain ⟨t1, ht1⟩ : ∃ T, outT g g.edges.length i a.actor a.port = T := ⟨_, rfl⟩
 rw [hE, hT, ht1] at hN
 obtain ⟨E1, hE1⟩ : ∃ T, endR g (ratesO g) a.actor a.port t1 = T := ⟨_, rfl⟩
 rw [hE1] at hN
 have HN := Lib.hid hN
 have HE := Lib.hid hE
 have HT := Lib.hid hT
 have HT1 := Lib.hid ht1
 have HE1 := Lib.hid hE1
 clear hrec hcl hcs hb0 hcap hae hN ht1 hE1 hg hE hT hnm
 have hsz : (w.alloc (.cells #[.string g.name, .slice aa g.actors.length ac, .slice ae g.edges.length ec, .slice ai g.ins.length ic, .slice (some ⟨b0, off, none⟩) g.outs.length oc] 26)).heap.size = w.heap.size + 1 := by simp
 have hby := below_alloc (w.alloc (.cells #[.string g.name, .slice aa g.actors.length ac, .slice ae g.edges.length ec, .slice ai g.ins.length ic, .slice (some ⟨b0, off, none⟩) g.outs.length oc] 26)) (.cells #[.string a.name, .int .i64 a.actor, .int .i64 a.port] 65)
 have hY := heap_alloc_new (w.alloc (.cells #[.string g.name, .slice aa g.actors.length ac, .slice ae g.edges.length ec, .slice ai g.ins.length ic, .slice (some ⟨b0, off, none⟩) g.outs.length oc] 26)) (.cells #[.string a.name, .int .i64 a.actor, .int .i64 a.port] 65)
 rw [hsz] at hY
 replace x0 := cell_later hby x0
 replace x1 := cell_later hby x1
 replace x2 := cell_later hby x2
 replace x3 := cell_later hby x3
 replace x4 := cell_later hby x4
 have HBY := Lib.hid (HB.out.trans (hby.mono HB.out.size))
 clear hby hsz
 have y0 := cells_row _ _ hY 0 _ rfl
 have y1 := cells_row _ _ hY 1 _ rfl
 have y2 := cells_row _ _ hY 2 _ rfl
 clear hY
 go_enter Try.func107, Try.ntmps107
 go_wp2_with fail
 obtain ⟨wy, hwy⟩ : ∃ x, (w.alloc (.cells #[.string g.name, .slice aa g.actors.length ac, .slice ae g.edges.length ec, .slice ai g.ins.length ic, .slice (some ⟨b0, off, none⟩) g.outs.length oc] 26)).alloc (.cells #[.string a.name, .int .i64 a.actor, .int .i64 a.port] 65) = x := ⟨_, rfl⟩
 rw [hwy] at HBY x0 x1 x2 x3 x4 ⊢
 rw [hwy] at y0 y1 y2
 clear hwy c0 c1 c2
 obtain ⟨Y, hYe⟩ : ∃ x, w.heap.size + 1 = x := ⟨_, rfl⟩
 rw [hYe] at y0 y1 y2 ⊢
 clear hYe
 refine (xname_any _ _ HNM.out).mono ?_
 rintro e _ ⟨rfl, rfl⟩
 rw [HE.out]
 cases E with
 | false =>
  have e : N = 82 := by rw [← HN.out]; simp
  subst e
  go_wp2
  go_ret2
  exact ⟨_, rfl, HBY.out⟩
 | true =>
  go_wp2_with fail
  refine (named_any _ _ g g.actors.length g.ins.length i a.name (HG.out.below HBY.out) ⟨Nat.le_refl _, fa⟩ ⟨Nat.le_refl _, fi⟩ ⟨by have := HII.out; omega, by have := HII.out; omega⟩).mono ?_
  rintro e w3 ⟨rfl, hb3⟩
  rw [HT.out]
  cases T with
  | true =>
   have e : N = 83 := by rw [← HN.out]; simp
   subst e
   have HB3 := Lib.hid (HBY.out.trans (hb3.mono HBY.out.size))
   clear hb3
   go_wp2
   go_ret2
   exact ⟨_, rfl, HB3.out⟩
  | false =>
   have e : E1 = N := by rw [← HN.out]; simp
   have HE3 := Lib.hid e
   replace x0 := cell_later hb3 x0
   replace x1 := cell_later hb3 x1
   replace x2 := cell_later hb3 x2
   replace x3 := cell_later hb3 x3
   replace x4 := cell_later hb3 x4
   replace y1 := cell_later hb3 y1
   replace y2 := cell_later hb3 y2
   have HB3 := Lib.hid (HBY.out.trans (hb3.mono HBY.out.size))
   clear hb3 y0 e HBY
   go_wp2_with fail
   refine wp_region_lex1 (fun w' => (w'.cell? ⟨w.heap.size, 0, none⟩ = some (.string g.name) ∧ w'.cell? ⟨w.heap.size, 1, none⟩ = some (.slice aa g.actors.length ac) ∧ w'.cell? ⟨w.heap.size, 2, none⟩ = some (.slice ae g.edges.length ec) ∧ w'.cell? ⟨w.heap.size, 3, none⟩ = some (.slice ai g.ins.length ic) ∧ w'.cell? ⟨w.heap.size, 4, none⟩ = some (.slice (some ⟨b0, off, none⟩) g.outs.length oc)) ∧ w'.cell? ⟨Y, 1, none⟩ = some (.int .i64 a.actor) ∧ w'.cell? ⟨Y, 2, none⟩ = some (.int .i64 a.port))
    [0, 1, 2, 3, 4, 5, 6, 7, 8, 9, 10, 11, 12, 13] [] 14 [15, 16, 17] (by kernel_rfl) (by kernel_rfl) (by kernel_rfl) rfl (fun _ _ hx h => ⟨⟨hx.cell h.1.1, hx.cell h.1.2.1, hx.cell h.1.2.2.1, hx.cell h.1.2.2.2.1, hx.cell h.1.2.2.2.2⟩, hx.cell h.2.1, hx.cell h.2.2⟩) ⟨⟨x0, x1, x2, x3, x4⟩, y1, y2⟩ ?_
   intro Q' hQ'
   simp only [pickOps, List.flatMap_cons, List.flatMap_nil, List.drop_succ_cons, List.drop_zero, List.take_succ_cons, List.take_zero, List.cons_append, List.nil_append, List.append_nil]
   repeat (first
    | (refine wpReads_skip (by rfl) ?_; (try simp only [Act.put, List.setIfInBounds_toArray, List.set_cons_zero, List.set_cons_succ]))
    | (refine wpReads_cons ?_ (by rfl) (by rfl) ?_ ?_; rotate_left; (intro wz hz; (try dsimp only at hz); go_simp; try with_reducible rfl); (try simp only [Act.put, List.setIfInBounds_toArray, List.set_cons_zero, List.set_cons_succ]))
    | (refine wpReads_any ?_ (by rfl) ?_ ?_; rotate_left; (intro wz; go_simp; try with_reducible rfl); (try simp only [Act.put, List.setIfInBounds_toArray, List.set_cons_zero, List.set_cons_succ])))
   refine wpReads_nil ?_
   go_wp2_with fail
   refine (outTaken_any _ _ g g.edges.length i a.actor a.port (HG.out.below HB3.out.drew) (Nat.le_refl _) (by have := HII.out; omega) fe (by have := HII.out; omega)).mono ?_
   rintro e w4 ⟨rfl, hb4⟩
   rw [HT1.out]
   replace x0 := cell_later hb4 x0
   replace x1 := cell_later hb4 x1
   replace x2 := cell_later hb4 x2
   replace x3 := cell_later hb4 x3
   replace x4 := cell_later hb4 x4
   replace y1 := cell_later hb4 y1
   replace y2 := cell_later hb4 y2
   have HB4 := Lib.hid (HB3.out.drew.trans (hb4.mono HB3.out.drew.size))
   clear hb4
   go_wp2
   refine ⟨⟨⟨x0, x1, x2, x3, x4⟩, y1, y2⟩, ?_⟩
   go_wp2_with fail
   refine (end_true _ _ g a.actor a.port _ (HG.out.below HB4.out) HGD.out).mono ?_
   rintro e w5 ⟨rfl, hb5⟩
   rw [HE1.out, HE3.out]
   have HB5 := Lib.hid (HB4.out.trans (hb5.mono HB4.out.size))
   clear hb5 HE1 HE3
   go_wp2
   go_ret2
   exact ⟨_, rfl, HB5.out⟩
end Go.Proofs.Ytbmbfifempkhgaa

/- Has an actor a port that nothing is on, as the reference tells it. -/
namespace Go.Proofs.Ytbmbfifempkhgaa
open Go.RowKit
theorem open_yes {n m : Nat} {f g : Nat → Bool} {j : Nat} (hj : j < n) (hf : f j = false) : ((List.range n).any (fun k => !f k) || (List.range m).any (fun k => !g k)) = true := by
 rw [Bool.or_eq_true, List.any_eq_true]
 exact .inl ⟨j, List.mem_range.2 hj, by rw [hf]; rfl⟩
theorem open_yes2 {n m : Nat} {f g : Nat → Bool} {j : Nat} (hj : j < m) (hf : g j = false) : ((List.range n).any (fun k => !f k) || (List.range m).any (fun k => !g k)) = true := by
 rw [Bool.or_eq_true, List.any_eq_true, List.any_eq_true]
 exact .inr ⟨j, List.mem_range.2 hj, by rw [hf]; rfl⟩
theorem open_no {n m : Nat} {f g : Nat → Bool} (hf : ∀ j, j < n → f j = true) (hg : ∀ j, j < m → g j = true) : ((List.range n).any (fun k => !f k) || (List.range m).any (fun k => !g k)) = false := by
 rw [Bool.or_eq_false_iff, List.any_eq_false, List.any_eq_false]
 exact ⟨fun k hk => by rw [hf k (List.mem_range.1 hk)]; simp, fun k hk => by rw [hg k (List.mem_range.1 hk)]; simp⟩
set_option maxRecDepth 100000 in
set_option maxHeartbeats 4000000 in
theorem xopen_any (w : World) (v : Value) (g : GGraph) (i : Nat) (h : HasGraph w v g) (hg : actorG g) (hi : i < g.actors.length) (hf : g.actors.length ≤ 1000000 ∧ g.edges.length ≤ 1000000 ∧ g.ins.length ≤ 1000000 ∧ g.outs.length ≤ 1000000) : Calls Try.prog 108 #[v, .int .i64 (i : Int)] w (Tells (.bool (openR1 g i)) w) := by
 obtain ⟨va, ve, vi, vo, rfl, ra, re, ri, ro⟩ := h.shape
 obtain ⟨aa, ac, rfl⟩ := ra.slice
 obtain ⟨ae, ec, rfl⟩ := re.slice
 obtain ⟨ai, ic, rfl⟩ := ri.slice
 obtain ⟨ao, oc, rfl⟩ := ro.slice
 have HG := Lib.hid h
 have HRA := Lib.hid ra
 have HRE := Lib.hid re
 have HRI := Lib.hid ri
 have HRO := Lib.hid ro
 have hb := below_alloc w (.cells #[.string g.name, .slice aa g.actors.length ac, .slice ae g.edges.length ec, .slice ai g.ins.length ic, .slice ao g.outs.length oc] 26)
 have HB := Lib.hid hb
 have hX := heap_alloc_new w (.cells #[.string g.name, .slice aa g.actors.length ac, .slice ae g.edges.length ec, .slice ai g.ins.length ic, .slice ao g.outs.length oc] 26)
 have HXB := Lib.hid hX
 have x0 := cells_row _ _ hX 0 _ rfl
 have x1 := cells_row _ _ hX 1 _ rfl
 have x2 := cells_row _ _ hX 2 _ rfl
 have x3 := cells_row _ _ hX 3 _ rfl
 have x4 := cells_row _ _ hX 4 _ rfl
 clear h ra re ri ro hb hX
 obtain ⟨fa, fe, fi, fo⟩ := hf
 have hR := rates_any' _ _ g i (HG.out.below HB.out) hi (hg _ (List.getElem_mem hi))
 have hsI : (ratesI g i).length ≤ 16 ∧ (ratesO g i).length ≤ 16 := by
  have := shape_len (hg _ (List.getElem_mem hi))
  unfold ratesI ratesO
  rw [List.getElem?_eq_getElem hi]
  exact this
 obtain ⟨N, hN⟩ : ∃ N, openR1 g i = N := ⟨_, rfl⟩
 rw [hN]
 unfold openR1 at hN
 obtain ⟨n, hn⟩ : ∃ n, (ratesI g i).length = n := ⟨_, rfl⟩
 obtain ⟨m, hm⟩ : ∃ n, (ratesO g i).length = n := ⟨_, rfl⟩
 rw [hn, hm] at hN hR hsI
 have HR := Lib.hid hR
 have HN := Lib.hid hN
 clear hR hN hn hm hg
 obtain ⟨hn16, hm16⟩ := hsI
 go_enter Try.func108, Try.ntmps108
 go_wp2_with fail
 refine HR.out.mono ?_
 rintro e w1 ⟨rfl, hb1⟩
 replace x0 := cell_later hb1 x0
 replace x1 := cell_later hb1 x1
 replace x2 := cell_later hb1 x2
 replace x3 := cell_later hb1 x3
 replace x4 := cell_later hb1 x4
 have HB1 := Lib.hid (HB.out.trans (hb1.mono HB.out.size))
 clear hb1 HR HB HXB
 go_wp2_with fail
 go_loopw [7] (fun x wl => ∃ j : Nat, j ≤ n ∧ x = .int .i64 j ∧ Below w1.heap.size w1 wl ∧ ∀ k, k < j → inT g g.edges.length g.ins.length i k = true) (fun x _ => n - (intOf x).toNat)
 case atStart => exact ⟨0, Nat.zero_le _, rfl, Below.refl _ _, fun k hk => by omega⟩
 case round =>
  obtain ⟨j, hj, rfl, hbl, hall⟩ := hrel
  have HA := Lib.hid hall
  have HBL := Lib.hid hbl
  have HBW := Lib.hid (HB1.out.trans (hbl.mono HB1.out.size))
  clear hall hbl
  by_cases hlt : j < n
  ·
   have hlti : (j : Int) < n := by omega
   have y0 := cell_later HBL.out x0
   have y1 := cell_later HBL.out x1
   have y2 := cell_later HBL.out x2
   have y3 := cell_later HBL.out x3
   have y4 := cell_later HBL.out x4
   go_wp2_with fail
   refine (inTaken_any _ _ g g.edges.length g.ins.length i j (HG.out.below HBW.out) (Nat.le_refl _) (Nat.le_refl _) fe fi).mono ?_
   rintro e w2 ⟨rfl, hb2⟩
   obtain ⟨T, hT⟩ : ∃ T, inT g g.edges.length g.ins.length i j = T := ⟨_, rfl⟩
   rw [hT]
   have HT := Lib.hid hT
   have HB2 := Lib.hid (HBL.out.trans (hb2.mono HBL.out.size))
   have HBW2 := Lib.hid (HBW.out.trans (hb2.mono HBW.out.size))
   clear hT hb2 y0 y1 y2 y3 y4
   cases T with
   | false =>
    have e : N = true := by rw [← HN.out]; exact open_yes (f := fun k => inT g g.edges.length g.ins.length i k) hlt HT.out
    subst e
    go_wp2
    go_ret
    exact ⟨rfl, HBW2.out⟩
   | true =>
    go_wp2
    go_roundw
    case rel => exact ⟨j + 1, hlt, by go_num, HB2.out, fun k hk => by
     by_cases e : k = j
     ·
      subst e; exact HT.out
     ·
      exact HA.out k (by omega)⟩
    case measure => simp [intOf]; omega
  ·
   obtain rfl : j = n := by omega
   have hlti : ¬ ((j : Int) < j) := by omega
   have y0 := cell_later HBL.out x0
   have y1 := cell_later HBL.out x1
   have y2 := cell_later HBL.out x2
   have y3 := cell_later HBL.out x3
   have y4 := cell_later HBL.out x4
   clear hlt hj x0 x1 x2 x3 x4
   go_wp2_with fail
   go_loopw [8] (fun x wl => ∃ j : Nat, j ≤ m ∧ x = .int .i64 j ∧ Below wr.heap.size wr wl ∧ ∀ k, k < j → outT g g.edges.length g.outs.length i k = true) (fun x _ => m - (intOf x).toNat)
   case atStart => exact ⟨0, Nat.zero_le _, rfl, Below.refl _ _, fun k hk => by omega⟩
   case round =>
    obtain ⟨k, hk, rfl, hbl, hall⟩ := hrel
    have HA2 := Lib.hid hall
    have HBL2 := Lib.hid hbl
    have HBW2 := Lib.hid (HBW.out.trans (hbl.mono HBW.out.size))
    clear hall hbl
    by_cases hlt : k < m
    ·
     have hlti : (k : Int) < m := by omega
     have z0 := cell_later HBL2.out y0
     have z1 := cell_later HBL2.out y1
     have z2 := cell_later HBL2.out y2
     have z3 := cell_later HBL2.out y3
     have z4 := cell_later HBL2.out y4
     go_wp2_with fail
     refine (outTaken_any _ _ g g.edges.length g.outs.length i k (HG.out.below HBW2.out) (Nat.le_refl _) (Nat.le_refl _) fe fo).mono ?_
     rintro e w2 ⟨rfl, hb2⟩
     obtain ⟨T, hT⟩ : ∃ T, outT g g.edges.length g.outs.length i k = T := ⟨_, rfl⟩
     rw [hT]
     have HT := Lib.hid hT
     have HB2 := Lib.hid (HBL2.out.trans (hb2.mono HBL2.out.size))
     have HBW3 := Lib.hid (HBW2.out.trans (hb2.mono HBW2.out.size))
     clear hT hb2 z0 z1 z2 z3 z4
     cases T with
     | false =>
      have e : N = true := by rw [← HN.out]; exact open_yes2 (g := fun k => outT g g.edges.length g.outs.length i k) hlt HT.out
      subst e
      go_wp2
      go_ret
      exact ⟨rfl, HBW3.out⟩
     | true =>
      go_wp2
      go_roundw
      case rel => exact ⟨k + 1, hlt, by go_num, HB2.out, fun q hq => by
       by_cases e : q = k
       ·
        subst e; exact HT.out
       ·
        exact HA2.out q (by omega)⟩
      case measure => simp [intOf]; omega
    ·
     obtain rfl : k = m := by omega
     have hlti : ¬ ((k : Int) < k) := by omega
     have e : N = false := by rw [← HN.out]; exact open_no (f := fun k => inT g g.edges.length g.ins.length i k) (g := fun k => outT g g.edges.length g.outs.length i k) HA.out HA2.out
     subst e
     go_wp2
     go_ret
     exact ⟨rfl, HBW2.out⟩
end Go.Proofs.Ytbmbfifempkhgaa

/- Find and Check, as the reference does them. -/
namespace Go.Proofs.Ytbmbfifempkhgaa
open Go.RowKit
def WrongRet (x : Int) (w : World) (e : Ending) (w' : World) : Prop := (∃ k it en : Int, e = .returned (.agg #[.int .i64 x, .int .u8 k, .int .i64 it, .int .i64 en])) ∧ Below w.heap.size w w'
def manyR (g : GGraph) : Int := if 32 < g.actors.length then 81 else if 96 < g.edges.length then 81 else if 16 < g.ins.length then 81 else if 16 < g.outs.length then 81 else 0
theorem wrong_set {w : World} {Z : Nat} {a b c d z0 z1 z2 z3 : Value} (h : w.heap[Z]? = some (.cells #[z0, z1, z2, z3] 153 (0, 0))) : ((((w.setCell ⟨Z, 0, none⟩ a).setCell ⟨Z, 1, none⟩ b).setCell ⟨Z, 2, none⟩ c).setCell ⟨Z, 3, none⟩ d).heap[Z]? = some (.cells #[a, b, c, d] 153 (0, 0)) :=
 block_setCell (block_setCell (block_setCell (block_setCell h 0 a) 1 b) 2 c) 3 d
theorem wrong_below {w w1 : World} {Z : Nat} (h : Below w.heap.size w w1) (hZ : w.heap.size ≤ Z) (a b c d : Value) : Below w.heap.size w ((((w1.setCell ⟨Z, 0, none⟩ a).setCell ⟨Z, 1, none⟩ b).setCell ⟨Z, 2, none⟩ c).setCell ⟨Z, 3, none⟩ d) :=
 h.trans (Mods.below (((((Mods.refl (fun k => k = Z) w1).setCell (p := ⟨Z, 0, none⟩) (fun _ => rfl) a).setCell (p := ⟨Z, 1, none⟩) (fun _ => rfl) b).setCell (p := ⟨Z, 2, none⟩) (fun _ => rfl) c).setCell (p := ⟨Z, 3, none⟩) (fun _ => rfl) d) h.size (fun k hk e => by omega))
theorem actorsR_step {g : GGraph} {j : Nat} (h : j < g.actors.length) : actorsR g j (g.actors.drop j) = if actorR g j g.actors[j] ≠ 0 then actorR g j g.actors[j] else actorsR g (j + 1) (g.actors.drop (j + 1)) := by rw [List.drop_eq_getElem_cons h, actorsR]
theorem edgesR_step {g : GGraph} {j : Nat} (h : j < g.edges.length) : edgesR g j (g.edges.drop j) = if edgeR g j g.edges[j] ≠ 0 then edgeR g j g.edges[j] else edgesR g (j + 1) (g.edges.drop (j + 1)) := by rw [List.drop_eq_getElem_cons h, edgesR]
theorem insR_step {g : GGraph} {j : Nat} (h : j < g.ins.length) : insR g j (g.ins.drop j) = if inR g j g.ins[j] ≠ 0 then inR g j g.ins[j] else insR g (j + 1) (g.ins.drop (j + 1)) := by rw [List.drop_eq_getElem_cons h, insR]
theorem outsR_step {g : GGraph} {j : Nat} (h : j < g.outs.length) : outsR g j (g.outs.drop j) = if outR g j g.outs[j] ≠ 0 then outR g j g.outs[j] else outsR g (j + 1) (g.outs.drop (j + 1)) := by rw [List.drop_eq_getElem_cons h, outsR]
theorem head_many {g : GGraph} (h1 : nameP g.name = true) (h2 : ¬ g.actors.length = 0) : headE g = manyR g := by
 unfold headE manyR
 rw [h1]
 simp only [Bool.not_true, Bool.false_eq_true, if_false]
 rw [if_neg h2]
theorem many_few {g : GGraph} (h : manyR g = 0) : g.actors.length ≤ 32 ∧ g.edges.length ≤ 96 ∧ g.ins.length ≤ 16 ∧ g.outs.length ≤ 16 := by
 unfold manyR at h
 split at h
 ·
  cases h
 split at h
 ·
  cases h
 split at h
 ·
  cases h
 split at h
 ·
  cases h
 omega
structure FindK (w w' : World) (gv : Array Value) : Prop where
 below : Below w.heap.size w w'
 box : w'.heap[w.heap.size]? = some (.cells gv 26 (0, 0))
 res : w'.heap[w.heap.size + 1]? = some (.cells #[.int .i64 0, .int .u8 0, .int .i64 0, .int .i64 0] 153 (0, 0))
theorem FindK.later {w w1 w2 : World} {gv : Array Value} (h : FindK w w1 gv) (hb : Below w1.heap.size w1 w2) : FindK w w2 gv :=
 ⟨h.below.trans (hb.mono h.below.size), (hb.block _ (block_lt h.box)).trans h.box, (hb.block _ (block_lt h.res)).trans h.res⟩
set_option maxRecDepth 100000 in
set_option maxHeartbeats 2000000 in
theorem many_any (w : World) (v : Value) (g : GGraph) (h : HasGraph w v g) : Calls Try.prog 103 #[v] w (WrongRet (manyR g) w) := by
 obtain ⟨va, ve, vi, vo, rfl, ra, re, ri, ro⟩ := h.shape
 obtain ⟨aa, ac, rfl⟩ := ra.slice
 obtain ⟨ae, ec, rfl⟩ := re.slice
 obtain ⟨ai, ic, rfl⟩ := ri.slice
 obtain ⟨ao, oc, rfl⟩ := ro.slice
 have HG := Lib.hid h
 have HRA := Lib.hid ra
 have HRE := Lib.hid re
 have HRI := Lib.hid ri
 have HRO := Lib.hid ro
 have hb := below_alloc w (.cells #[.string g.name, .slice aa g.actors.length ac, .slice ae g.edges.length ec, .slice ai g.ins.length ic, .slice ao g.outs.length oc] 26)
 have HB := Lib.hid hb
 have hX := heap_alloc_new w (.cells #[.string g.name, .slice aa g.actors.length ac, .slice ae g.edges.length ec, .slice ai g.ins.length ic, .slice ao g.outs.length oc] 26)
 have HXB := Lib.hid hX
 have x0 := cells_row _ _ hX 0 _ rfl
 have x1 := cells_row _ _ hX 1 _ rfl
 have x2 := cells_row _ _ hX 2 _ rfl
 have x3 := cells_row _ _ hX 3 _ rfl
 have x4 := cells_row _ _ hX 4 _ rfl
 clear h ra re ri ro hb hX
 obtain ⟨N, hN⟩ : ∃ N, manyR g = N := ⟨_, rfl⟩
 rw [hN]
 unfold manyR at hN
 have HN := Lib.hid hN
 clear hN
 by_cases hactors : 32 < g.actors.length
 ·
  have e : N = 81 := by rw [← HN.out, if_pos hactors]
  have hactorsi : (32 : Int) < g.actors.length := by omega
  subst e
  clear hactors
  go_enter Try.func103, Try.ntmps103
  go_wp2
  refine bodyPost_ret_by (results_cell_row rfl _ _ _ _ _ _ _ rfl (allocs_get [.cells #[.string g.name, .slice aa g.actors.length ac, .slice ae g.edges.length ec, .slice ai g.ins.length ic, .slice ao g.outs.length oc] 26, .cells #[.int .i64 81, .int .u8 1, .int .i64 32, .int .i64 0] 153] w 1 _ rfl) Try.underlying153 rfl (by kernel_rfl)) rfl ?_
  exact ⟨⟨_, _, _, rfl⟩, (allocs_below [_, _] w).1⟩
 have hactorsi : ¬ (32 : Int) < g.actors.length := by omega
 by_cases hedges : 96 < g.edges.length
 ·
  have e : N = 81 := by rw [← HN.out, if_neg hactors, if_pos hedges]
  have hedgesi : (96 : Int) < g.edges.length := by omega
  subst e
  clear hactors hedges
  go_enter Try.func103, Try.ntmps103
  go_wp2
  refine bodyPost_ret_by (results_cell_row rfl _ _ _ _ _ _ _ rfl (allocs_get [.cells #[.string g.name, .slice aa g.actors.length ac, .slice ae g.edges.length ec, .slice ai g.ins.length ic, .slice ao g.outs.length oc] 26, .cells #[.int .i64 81, .int .u8 2, .int .i64 96, .int .i64 0] 153] w 1 _ rfl) Try.underlying153 rfl (by kernel_rfl)) rfl ?_
  exact ⟨⟨_, _, _, rfl⟩, (allocs_below [_, _] w).1⟩
 have hedgesi : ¬ (96 : Int) < g.edges.length := by omega
 by_cases hins : 16 < g.ins.length
 ·
  have e : N = 81 := by rw [← HN.out, if_neg hactors, if_neg hedges, if_pos hins]
  have hinsi : (16 : Int) < g.ins.length := by omega
  subst e
  clear hactors hedges hins
  go_enter Try.func103, Try.ntmps103
  go_wp2
  refine bodyPost_ret_by (results_cell_row rfl _ _ _ _ _ _ _ rfl (allocs_get [.cells #[.string g.name, .slice aa g.actors.length ac, .slice ae g.edges.length ec, .slice ai g.ins.length ic, .slice ao g.outs.length oc] 26, .cells #[.int .i64 81, .int .u8 3, .int .i64 16, .int .i64 0] 153] w 1 _ rfl) Try.underlying153 rfl (by kernel_rfl)) rfl ?_
  exact ⟨⟨_, _, _, rfl⟩, (allocs_below [_, _] w).1⟩
 have hinsi : ¬ (16 : Int) < g.ins.length := by omega
 by_cases houts : 16 < g.outs.length
 ·
  have e : N = 81 := by rw [← HN.out, if_neg hactors, if_neg hedges, if_neg hins, if_pos houts]
  have houtsi : (16 : Int) < g.outs.length := by omega
  subst e
  clear hactors hedges hins houts
  go_enter Try.func103, Try.ntmps103
  go_wp2
  refine bodyPost_ret_by (results_cell_row rfl _ _ _ _ _ _ _ rfl (allocs_get [.cells #[.string g.name, .slice aa g.actors.length ac, .slice ae g.edges.length ec, .slice ai g.ins.length ic, .slice ao g.outs.length oc] 26, .cells #[.int .i64 81, .int .u8 4, .int .i64 16, .int .i64 0] 153] w 1 _ rfl) Try.underlying153 rfl (by kernel_rfl)) rfl ?_
  exact ⟨⟨_, _, _, rfl⟩, (allocs_below [_, _] w).1⟩
 have houtsi : ¬ (16 : Int) < g.outs.length := by omega
 have e : N = 0 := by rw [← HN.out, if_neg hactors, if_neg hedges, if_neg hins, if_neg houts]
 subst e
 clear hactors hedges hins houts
 go_enter Try.func103, Try.ntmps103
 go_wp2
 refine bodyPost_ret_by (results_cell_row rfl _ _ _ _ _ _ _ rfl (allocs_get [.cells #[.string g.name, .slice aa g.actors.length ac, .slice ae g.edges.length ec, .slice ai g.ins.length ic, .slice ao g.outs.length oc] 26, .cells #[.int .i64 0, .int .u8 0, .int .i64 0, .int .i64 0] 153] w 1 _ rfl) Try.underlying153 rfl (by kernel_rfl)) rfl ?_
 exact ⟨⟨_, _, _, rfl⟩, (allocs_below [_, _] w).1⟩
/- $1: the world's facts -/
set_option maxRecDepth 100000 in
set_option maxHeartbeats 4000000 in
theorem xfind_any (w : World) (v : Value) (g : GGraph) (h : HasGraph w v g) (hs : GSized g) : Calls Try.prog 81 #[v] w (WrongRet (refE g) w) := by
 obtain ⟨va, ve, vi, vo, rfl, ra, re, ri, ro⟩ := h.shape
 obtain ⟨aa, ac, rfl⟩ := ra.slice
 obtain ⟨ae, ec, rfl⟩ := re.slice
 obtain ⟨ai, ic, rfl⟩ := ri.slice
 obtain ⟨ao, oc, rfl⟩ := ro.slice
 have HG := Lib.hid h
 have HSZ := Lib.hid hs
 clear ra re ri ro h hs
 have hb1 := below_alloc w (.cells #[.string g.name, .slice aa g.actors.length ac, .slice ae g.edges.length ec, .slice ai g.ins.length ic, .slice ao g.outs.length oc] 26)
 have hX := heap_alloc_new w (.cells #[.string g.name, .slice aa g.actors.length ac, .slice ae g.edges.length ec, .slice ai g.ins.length ic, .slice ao g.outs.length oc] 26)
 have hsz : (w.alloc (.cells #[.string g.name, .slice aa g.actors.length ac, .slice ae g.edges.length ec, .slice ai g.ins.length ic, .slice ao g.outs.length oc] 26)).heap.size = w.heap.size + 1 := by simp
 have hb2 := below_alloc (w.alloc (.cells #[.string g.name, .slice aa g.actors.length ac, .slice ae g.edges.length ec, .slice ai g.ins.length ic, .slice ao g.outs.length oc] 26)) (.cells #[.int .i64 0, .int .u8 0, .int .i64 0, .int .i64 0] 153)
 have hZ := heap_alloc_new (w.alloc (.cells #[.string g.name, .slice aa g.actors.length ac, .slice ae g.edges.length ec, .slice ai g.ins.length ic, .slice ao g.outs.length oc] 26)) (.cells #[.int .i64 0, .int .u8 0, .int .i64 0, .int .i64 0] 153)
 rw [hsz] at hZ
 have HF := Lib.hid (FindK.mk (hb1.trans (hb2.mono hb1.size)) ((hb2.block _ (block_lt hX)).trans hX) hZ)
 obtain ⟨w2, hw2⟩ : ∃ x, (w.alloc (.cells #[.string g.name, .slice aa g.actors.length ac, .slice ae g.edges.length ec, .slice ai g.ins.length ic, .slice ao g.outs.length oc] 26)).alloc (.cells #[.int .i64 0, .int .u8 0, .int .i64 0, .int .i64 0] 153) = x := ⟨_, rfl⟩
 rw [hw2] at HF
 have HW2 := Lib.hid hw2
 clear hb1 hX hsz hb2 hZ hw2
 have hEq := HW2.out
 obtain ⟨N, hN⟩ : ∃ N, refE g = N := ⟨_, rfl⟩
 rw [hN]
 unfold refE at hN
 have HN := Lib.hid hN
 clear hN
 obtain ⟨E, hE⟩ : ∃ E, nameP g.name = E := ⟨_, rfl⟩
 have HE := Lib.hid hE
 clear hE hEq
 go_enter Try.func81, Try.ntmps81
 go_wp2_with fail
 rw [HW2.out]
 refine (xname_any _ _ HSZ.out.1).mono ?_
 rintro e _ ⟨rfl, rfl⟩
 rw [HE.out]
 cases E with
 | false =>
  have e : N = 82 := by
   have hh : headE g = 82 := by unfold headE; rw [HE.out]; rfl
   rw [← HN.out, hh]
   rfl
  subst e
  have z0 := cells_row _ _ HF.out.res 0 _ rfl
  have z1 := cells_row _ _ HF.out.res 1 _ rfl
  have z2 := cells_row _ _ HF.out.res 2 _ rfl
  have z3 := cells_row _ _ HF.out.res 3 _ rfl
  have f0 := frozen_of_block HF.out.res 0
  have f1 := frozen_of_block HF.out.res 1
  have f2 := frozen_of_block HF.out.res 2
  have f3 := frozen_of_block HF.out.res 3
  go_wp2
  refine bodyPost_ret_by (results_cell_row rfl _ _ _ _ _ _ _ rfl (wrong_set HF.out.res) Try.underlying153 rfl (by kernel_rfl)) rfl ?_
  exact ⟨⟨_, _, _, rfl⟩, wrong_below HF.out.below (Nat.le_succ _) _ _ _ _⟩
 | true =>
  by_cases h0 : g.actors.length = 0
  ·
   have e : N = 80 := by
    have hh : headE g = 80 := by unfold headE; rw [HE.out]; simp only [Bool.not_true, Bool.false_eq_true, if_false]; rw [if_pos h0]
    rw [← HN.out, hh]
    rfl
   subst e
   have x1 := cells_row _ _ HF.out.box 1 _ rfl
   have h0i : ((g.actors.length : Int) == 0) = true := by rw [beq_iff_eq]; omega
   clear h0
   have z0 := cells_row _ _ HF.out.res 0 _ rfl
   have z1 := cells_row _ _ HF.out.res 1 _ rfl
   have z2 := cells_row _ _ HF.out.res 2 _ rfl
   have z3 := cells_row _ _ HF.out.res 3 _ rfl
   have f0 := frozen_of_block HF.out.res 0
   have f1 := frozen_of_block HF.out.res 1
   have f2 := frozen_of_block HF.out.res 2
   have f3 := frozen_of_block HF.out.res 3
   go_wp2
   refine bodyPost_ret_by (results_cell_row rfl _ _ _ _ _ _ _ rfl (wrong_set HF.out.res) Try.underlying153 rfl (by kernel_rfl)) rfl ?_
   exact ⟨⟨_, _, _, rfl⟩, wrong_below HF.out.below (Nat.le_succ _) _ _ _ _⟩
  have h0i : ((g.actors.length : Int) == 0) = false := by rw [beq_eq_false_iff_ne]; omega
  have hh := head_many HE.out h0
  have HH := Lib.hid hh
  clear h0 hh
  have x0 := cells_row _ _ HF.out.box 0 _ rfl
  have x1 := cells_row _ _ HF.out.box 1 _ rfl
  have x2 := cells_row _ _ HF.out.box 2 _ rfl
  have x3 := cells_row _ _ HF.out.box 3 _ rfl
  have x4 := cells_row _ _ HF.out.box 4 _ rfl
  go_wp2_with fail
  refine (many_any _ _ g (HG.out.below HF.out.below)).mono ?_
  rintro e w3 ⟨⟨kd, it, en, rfl⟩, hb3⟩
  obtain ⟨M, hM⟩ : ∃ M, manyR g = M := ⟨_, rfl⟩
  rw [hM]
  have HM := Lib.hid hM
  have HF3 := Lib.hid ((HF.out.later hb3).later (below_alloc w3 (.cells #[.int .i64 M, .int .u8 kd, .int .i64 it, .int .i64 en] 153)))
  clear hM hb3 x0 x1 x2 x3 x4
  by_cases hM0 : M = 0
  ·
   subst hM0
   have hfew := many_few HM.out
   have HFEW := Lib.hid hfew
   have hN2 : (if actorsR g 0 g.actors ≠ 0 then actorsR g 0 g.actors else if edgesR g 0 g.edges ≠ 0 then edgesR g 0 g.edges else if insR g 0 g.ins ≠ 0 then insR g 0 g.ins else if outsR g 0 g.outs ≠ 0 then outsR g 0 g.outs else openR g) = N := by
    rw [← HN.out, HH.out, HM.out]
    exact (if_neg (fun h => h rfl)).symm
   have HN2 := Lib.hid hN2
   clear hfew hN2 HN
   go_wp2_with fail
   obtain ⟨w4, hw4⟩ : ∃ x, w3.alloc (.cells #[.int .i64 0, .int .u8 kd, .int .i64 it, .int .i64 en] 153) = x := ⟨_, rfl⟩
   rw [hw4] at HF3 ⊢
   clear hw4
   obtain ⟨EA, hEA⟩ : ∃ x, actorsR g 0 g.actors = x := ⟨_, rfl⟩
   have HEA := Lib.hid hEA
   go_loopw [4] (fun x wl => ∃ j : Nat, j ≤ g.actors.length ∧ x = .int .i64 j ∧ FindK w wl #[.string g.name, .slice aa g.actors.length ac, .slice ae g.edges.length ec, .slice ai g.ins.length ic, .slice ao g.outs.length oc] ∧ actorsR g j (g.actors.drop j) = EA) (fun x _ => g.actors.length - (intOf x).toNat)
   case atStart => exact ⟨0, Nat.zero_le _, rfl, HF3.out, hEA⟩
   case round =>
    clear hEA
    obtain ⟨j, hj, rfl, hK, hr⟩ := hrel
    have HK := Lib.hid hK
    have HRR := Lib.hid hr
    clear hK hr
    have hlm : g.actors.length ≤ 96 := by have := HFEW.out; omega
    have x0 := cells_row _ _ HK.out.box 0 _ rfl
    have x1 := cells_row _ _ HK.out.box 1 _ rfl
    have x2 := cells_row _ _ HK.out.box 2 _ rfl
    have x3 := cells_row _ _ HK.out.box 3 _ rfl
    have x4 := cells_row _ _ HK.out.box 4 _ rfl
    by_cases hlt : j < g.actors.length
    ·
     have hlti : (j : Int) < g.actors.length := by omega
     go_wp2_with fail
     refine (xactor_any _ _ g j (HG.out.below HK.out.below) HSZ.out hlt (by omega)).mono ?_
     rintro e w5 ⟨rfl, hb5⟩
     have hst := HRR.out
     rw [actorsR_step hlt] at hst
     obtain ⟨e5, he5⟩ : ∃ x, actorR g j g.actors[j] = x := ⟨_, rfl⟩
     rw [he5] at hst ⊢
     have HK5 := Lib.hid (HK.out.later hb5)
     clear hb5 he5 x0 x1 x2 x3 x4
     by_cases hz : e5 = 0
     ·
      subst hz
      rw [if_neg (fun h => h rfl)] at hst
      have HST := Lib.hid hst
      clear hst
      go_wp2
      go_roundw
      case rel => exact ⟨j + 1, hlt, by go_num, HK5.out, HST.out⟩
      case measure => simp [intOf]; omega
     ·
      rw [if_pos hz] at hst
      have e : e5 = N := by
       rw [hst]
       have hne : EA ≠ 0 := by rw [← hst]; exact hz
       rw [← HN2.out, HEA.out, if_pos hne]
      have hb : (e5 != 0) = true := by rw [bne_iff_ne]; exact hz
      subst e
      clear hz hst
      have z0 := cells_row _ _ HK5.out.res 0 _ rfl
      have z1 := cells_row _ _ HK5.out.res 1 _ rfl
      have z2 := cells_row _ _ HK5.out.res 2 _ rfl
      have z3 := cells_row _ _ HK5.out.res 3 _ rfl
      have f0 := frozen_of_block HK5.out.res 0
      have f1 := frozen_of_block HK5.out.res 1
      have f2 := frozen_of_block HK5.out.res 2
      have f3 := frozen_of_block HK5.out.res 3
      go_wp2
      refine bodyPost_ret_by (results_cell_row rfl _ _ _ _ _ _ _ rfl (wrong_set HK5.out.res) Try.underlying153 rfl (by kernel_rfl)) rfl ?_
      exact ⟨⟨_, _, _, rfl⟩, wrong_below HK5.out.below (Nat.le_succ _) _ _ _ _⟩
    ·
     obtain rfl : j = g.actors.length := by omega
     have hlti : ¬ ((g.actors.length : Int) < g.actors.length) := by omega
     have hz : EA = 0 := by
      have := HRR.out
      rw [List.drop_length] at this
      exact this.symm
     have HZEA := Lib.hid hz
     clear hlt hj hz
     have hgd : actorG g := actorsR_good _ 0 (by rw [HEA.out]; exact HZEA.out)
     have HGD := Lib.hid hgd
     clear hgd
     go_wp2_with fail
     obtain ⟨EE, hEE⟩ : ∃ x, edgesR g 0 g.edges = x := ⟨_, rfl⟩
     have HEE := Lib.hid hEE
     go_loopw [6] (fun x wl => ∃ j : Nat, j ≤ g.edges.length ∧ x = .int .i64 j ∧ FindK w wl #[.string g.name, .slice aa g.actors.length ac, .slice ae g.edges.length ec, .slice ai g.ins.length ic, .slice ao g.outs.length oc] ∧ edgesR g j (g.edges.drop j) = EE) (fun x _ => g.edges.length - (intOf x).toNat)
     case atStart => exact ⟨0, Nat.zero_le _, rfl, HK.out, hEE⟩
     case round =>
      clear hEE
      obtain ⟨j, hj, rfl, hK, hr⟩ := hrel
      have HK := Lib.hid hK
      have HRR := Lib.hid hr
      clear hK hr
      have hlm : g.edges.length ≤ 96 := by have := HFEW.out; omega
      have x0 := cells_row _ _ HK.out.box 0 _ rfl
      have x1 := cells_row _ _ HK.out.box 1 _ rfl
      have x2 := cells_row _ _ HK.out.box 2 _ rfl
      have x3 := cells_row _ _ HK.out.box 3 _ rfl
      have x4 := cells_row _ _ HK.out.box 4 _ rfl
      by_cases hlt : j < g.edges.length
      ·
       have hlti : (j : Int) < g.edges.length := by omega
       go_wp2_with fail
       refine (xedge_any _ _ g j (HG.out.below HK.out.below) HGD.out hlt (by omega)).mono ?_
       rintro e w5 ⟨kk, rfl, hb5⟩
       have hst := HRR.out
       rw [edgesR_step hlt] at hst
       obtain ⟨e5, he5⟩ : ∃ x, edgeR g j g.edges[j] = x := ⟨_, rfl⟩
       rw [he5] at hst ⊢
       have HK5 := Lib.hid (HK.out.later hb5)
       clear hb5 he5 x0 x1 x2 x3 x4
       by_cases hz : e5 = 0
       ·
        subst hz
        rw [if_neg (fun h => h rfl)] at hst
        have HST := Lib.hid hst
        clear hst
        go_wp2
        go_roundw
        case rel => exact ⟨j + 1, hlt, by go_num, HK5.out, HST.out⟩
        case measure => simp [intOf]; omega
       ·
        rw [if_pos hz] at hst
        have e : e5 = N := by
         rw [hst]
         have hne : EE ≠ 0 := by rw [← hst]; exact hz
         rw [← HN2.out, HEE.out, HEA.out, HZEA.out, if_neg (fun h => h rfl), if_pos hne]
        have hb : (e5 != 0) = true := by rw [bne_iff_ne]; exact hz
        subst e
        clear hz hst
        have z0 := cells_row _ _ HK5.out.res 0 _ rfl
        have z1 := cells_row _ _ HK5.out.res 1 _ rfl
        have z2 := cells_row _ _ HK5.out.res 2 _ rfl
        have z3 := cells_row _ _ HK5.out.res 3 _ rfl
        have f0 := frozen_of_block HK5.out.res 0
        have f1 := frozen_of_block HK5.out.res 1
        have f2 := frozen_of_block HK5.out.res 2
        have f3 := frozen_of_block HK5.out.res 3
        go_wp2
        refine bodyPost_ret_by (results_cell_row rfl _ _ _ _ _ _ _ rfl (wrong_set HK5.out.res) Try.underlying153 rfl (by kernel_rfl)) rfl ?_
        exact ⟨⟨_, _, _, rfl⟩, wrong_below HK5.out.below (Nat.le_succ _) _ _ _ _⟩
      ·
       obtain rfl : j = g.edges.length := by omega
       have hlti : ¬ ((g.edges.length : Int) < g.edges.length) := by omega
       have hz : EE = 0 := by
        have := HRR.out
        rw [List.drop_length] at this
        exact this.symm
       have HZEE := Lib.hid hz
       clear hlt hj hz
       go_wp2_with fail
       obtain ⟨EI, hEI⟩ : ∃ x, insR g 0 g.ins = x := ⟨_, rfl⟩
       have HEI := Lib.hid hEI
       go_loopw [9] (fun x wl => ∃ j : Nat, j ≤ g.ins.length ∧ x = .int .i64 j ∧ FindK w wl #[.string g.name, .slice aa g.actors.length ac, .slice ae g.edges.length ec, .slice ai g.ins.length ic, .slice ao g.outs.length oc] ∧ insR g j (g.ins.drop j) = EI) (fun x _ => g.ins.length - (intOf x).toNat)
       case atStart => exact ⟨0, Nat.zero_le _, rfl, HK.out, hEI⟩
       case round =>
        clear hEI
        obtain ⟨j, hj, rfl, hK, hr⟩ := hrel
        have HK := Lib.hid hK
        have HRR := Lib.hid hr
        clear hK hr
        have hlm : g.ins.length ≤ 96 := by have := HFEW.out; omega
        have x0 := cells_row _ _ HK.out.box 0 _ rfl
        have x1 := cells_row _ _ HK.out.box 1 _ rfl
        have x2 := cells_row _ _ HK.out.box 2 _ rfl
        have x3 := cells_row _ _ HK.out.box 3 _ rfl
        have x4 := cells_row _ _ HK.out.box 4 _ rfl
        by_cases hlt : j < g.ins.length
        ·
         have hlti : (j : Int) < g.ins.length := by omega
         go_wp2_with fail
         refine (xin_any _ _ g j (HG.out.below HK.out.below) HSZ.out HGD.out hlt ⟨by have := HFEW.out; omega, by have := HFEW.out; omega, by have := HFEW.out; omega, by have := HFEW.out; omega⟩).mono ?_
         rintro e w5 ⟨kk, rfl, hb5⟩
         have hst := HRR.out
         rw [insR_step hlt] at hst
         obtain ⟨e5, he5⟩ : ∃ x, inR g j g.ins[j] = x := ⟨_, rfl⟩
         rw [he5] at hst ⊢
         have HK5 := Lib.hid (HK.out.later hb5)
         clear hb5 he5 x0 x1 x2 x3 x4
         by_cases hz : e5 = 0
         ·
          subst hz
          rw [if_neg (fun h => h rfl)] at hst
          have HST := Lib.hid hst
          clear hst
          go_wp2
          go_roundw
          case rel => exact ⟨j + 1, hlt, by go_num, HK5.out, HST.out⟩
          case measure => simp [intOf]; omega
         ·
          rw [if_pos hz] at hst
          have e : e5 = N := by
           rw [hst]
           have hne : EI ≠ 0 := by rw [← hst]; exact hz
           rw [← HN2.out, HEI.out, HEA.out, HZEA.out, if_neg (fun h => h rfl), HEE.out, HZEE.out, if_neg (fun h => h rfl), if_pos hne]
          have hb : (e5 != 0) = true := by rw [bne_iff_ne]; exact hz
          subst e
          clear hz hst
          have z0 := cells_row _ _ HK5.out.res 0 _ rfl
          have z1 := cells_row _ _ HK5.out.res 1 _ rfl
          have z2 := cells_row _ _ HK5.out.res 2 _ rfl
          have z3 := cells_row _ _ HK5.out.res 3 _ rfl
          have f0 := frozen_of_block HK5.out.res 0
          have f1 := frozen_of_block HK5.out.res 1
          have f2 := frozen_of_block HK5.out.res 2
          have f3 := frozen_of_block HK5.out.res 3
          go_wp2
          refine bodyPost_ret_by (results_cell_row rfl _ _ _ _ _ _ _ rfl (wrong_set HK5.out.res) Try.underlying153 rfl (by kernel_rfl)) rfl ?_
          exact ⟨⟨_, _, _, rfl⟩, wrong_below HK5.out.below (Nat.le_succ _) _ _ _ _⟩
        ·
         obtain rfl : j = g.ins.length := by omega
         have hlti : ¬ ((g.ins.length : Int) < g.ins.length) := by omega
         have hz : EI = 0 := by
          have := HRR.out
          rw [List.drop_length] at this
          exact this.symm
         have HZEI := Lib.hid hz
         clear hlt hj hz
         go_wp2_with fail
         obtain ⟨EO, hEO⟩ : ∃ x, outsR g 0 g.outs = x := ⟨_, rfl⟩
         have HEO := Lib.hid hEO
         go_loopw [12] (fun x wl => ∃ j : Nat, j ≤ g.outs.length ∧ x = .int .i64 j ∧ FindK w wl #[.string g.name, .slice aa g.actors.length ac, .slice ae g.edges.length ec, .slice ai g.ins.length ic, .slice ao g.outs.length oc] ∧ outsR g j (g.outs.drop j) = EO) (fun x _ => g.outs.length - (intOf x).toNat)
         case atStart => exact ⟨0, Nat.zero_le _, rfl, HK.out, hEO⟩
         case round =>
          clear hEO
          obtain ⟨j, hj, rfl, hK, hr⟩ := hrel
          have HK := Lib.hid hK
          have HRR := Lib.hid hr
          clear hK hr
          have hlm : g.outs.length ≤ 96 := by have := HFEW.out; omega
          have x0 := cells_row _ _ HK.out.box 0 _ rfl
          have x1 := cells_row _ _ HK.out.box 1 _ rfl
          have x2 := cells_row _ _ HK.out.box 2 _ rfl
          have x3 := cells_row _ _ HK.out.box 3 _ rfl
          have x4 := cells_row _ _ HK.out.box 4 _ rfl
          by_cases hlt : j < g.outs.length
          ·
           have hlti : (j : Int) < g.outs.length := by omega
           go_wp2_with fail
           refine (xout_any _ _ g j (HG.out.below HK.out.below) HSZ.out HGD.out hlt ⟨by have := HFEW.out; omega, by have := HFEW.out; omega, by have := HFEW.out; omega, by have := HFEW.out; omega⟩).mono ?_
           rintro e w5 ⟨kk, rfl, hb5⟩
           have hst := HRR.out
           rw [outsR_step hlt] at hst
           obtain ⟨e5, he5⟩ : ∃ x, outR g j g.outs[j] = x := ⟨_, rfl⟩
           rw [he5] at hst ⊢
           have HK5 := Lib.hid (HK.out.later hb5)
           clear hb5 he5 x0 x1 x2 x3 x4
           by_cases hz : e5 = 0
           ·
            subst hz
            rw [if_neg (fun h => h rfl)] at hst
            have HST := Lib.hid hst
            clear hst
            go_wp2
            go_roundw
            case rel => exact ⟨j + 1, hlt, by go_num, HK5.out, HST.out⟩
            case measure => simp [intOf]; omega
           ·
            rw [if_pos hz] at hst
            have e : e5 = N := by
             rw [hst]
             have hne : EO ≠ 0 := by rw [← hst]; exact hz
             rw [← HN2.out, HEO.out, HEA.out, HZEA.out, if_neg (fun h => h rfl), HEE.out, HZEE.out, if_neg (fun h => h rfl), HEI.out, HZEI.out, if_neg (fun h => h rfl), if_pos hne]
            have hb : (e5 != 0) = true := by rw [bne_iff_ne]; exact hz
            subst e
            clear hz hst
            have z0 := cells_row _ _ HK5.out.res 0 _ rfl
            have z1 := cells_row _ _ HK5.out.res 1 _ rfl
            have z2 := cells_row _ _ HK5.out.res 2 _ rfl
            have z3 := cells_row _ _ HK5.out.res 3 _ rfl
            have f0 := frozen_of_block HK5.out.res 0
            have f1 := frozen_of_block HK5.out.res 1
            have f2 := frozen_of_block HK5.out.res 2
            have f3 := frozen_of_block HK5.out.res 3
            go_wp2
            refine bodyPost_ret_by (results_cell_row rfl _ _ _ _ _ _ _ rfl (wrong_set HK5.out.res) Try.underlying153 rfl (by kernel_rfl)) rfl ?_
            exact ⟨⟨_, _, _, rfl⟩, wrong_below HK5.out.below (Nat.le_succ _) _ _ _ _⟩
          ·
           obtain rfl : j = g.outs.length := by omega
           have hlti : ¬ ((g.outs.length : Int) < g.outs.length) := by omega
           have hz : EO = 0 := by
            have := HRR.out
            rw [List.drop_length] at this
            exact this.symm
           have HZEO := Lib.hid hz
           clear hlt hj hz
           have hop : openR g = N := by
            rw [← HN2.out, HEA.out, HZEA.out, if_neg (fun h => h rfl), HEE.out, HZEE.out, if_neg (fun h => h rfl), HEI.out, HZEI.out, if_neg (fun h => h rfl), HEO.out, HZEO.out, if_neg (fun h => h rfl)]
           have HOP := Lib.hid hop
           clear hop
           go_wp2_with fail
           go_loopw [15] (fun x wl => ∃ j : Nat, j ≤ g.actors.length ∧ x = .int .i64 j ∧ FindK w wl #[.string g.name, .slice aa g.actors.length ac, .slice ae g.edges.length ec, .slice ai g.ins.length ic, .slice ao g.outs.length oc] ∧ ∀ k, k < j → openR1 g k = false) (fun x _ => g.actors.length - (intOf x).toNat)
           case atStart => exact ⟨0, Nat.zero_le _, rfl, HK.out, fun k hk => by omega⟩
           case round =>
            obtain ⟨j, hj, rfl, hK, hr⟩ := hrel
            have HKO := Lib.hid hK
            have HRO := Lib.hid hr
            clear hK hr
            have hlm : g.actors.length ≤ 96 := by have := HFEW.out; omega
            have x0 := cells_row _ _ HKO.out.box 0 _ rfl
            have x1 := cells_row _ _ HKO.out.box 1 _ rfl
            have x2 := cells_row _ _ HKO.out.box 2 _ rfl
            have x3 := cells_row _ _ HKO.out.box 3 _ rfl
            have x4 := cells_row _ _ HKO.out.box 4 _ rfl
            by_cases hlt : j < g.actors.length
            ·
             have hlti : (j : Int) < g.actors.length := by omega
             go_wp2_with fail
             refine (xopen_any _ _ g j (HG.out.below HKO.out.below) HGD.out hlt ⟨by have := HFEW.out; omega, by have := HFEW.out; omega, by have := HFEW.out; omega, by have := HFEW.out; omega⟩).mono ?_
             rintro e w5 ⟨rfl, hb5⟩
             obtain ⟨T, hT⟩ : ∃ x, openR1 g j = x := ⟨_, rfl⟩
             rw [hT]
             have HT := Lib.hid hT
             have HK5 := Lib.hid (HKO.out.later hb5)
             clear hb5 hT x0 x1 x2 x3 x4
             cases T with
             | false =>
              go_wp2
              go_roundw
              case rel => exact ⟨j + 1, hlt, by go_num, HK5.out, fun k hk => by
               by_cases e : k = j
               ·
                subst e; exact HT.out
               ·
                exact HRO.out k (by omega)⟩
              case measure => simp [intOf]; omega
             | true =>
              have e : N = 87 := by
               rw [← HOP.out]
               unfold openR
               rw [if_pos]
               exact List.any_eq_true.2 ⟨j, List.mem_range.2 hlt, HT.out⟩
              subst e
              have z0 := cells_row _ _ HK5.out.res 0 _ rfl
              have z1 := cells_row _ _ HK5.out.res 1 _ rfl
              have z2 := cells_row _ _ HK5.out.res 2 _ rfl
              have z3 := cells_row _ _ HK5.out.res 3 _ rfl
              have f0 := frozen_of_block HK5.out.res 0
              have f1 := frozen_of_block HK5.out.res 1
              have f2 := frozen_of_block HK5.out.res 2
              have f3 := frozen_of_block HK5.out.res 3
              go_wp2
              refine bodyPost_ret_by (results_cell_row rfl _ _ _ _ _ _ _ rfl (wrong_set HK5.out.res) Try.underlying153 rfl (by kernel_rfl)) rfl ?_
              exact ⟨⟨_, _, _, rfl⟩, wrong_below HK5.out.below (Nat.le_succ _) _ _ _ _⟩
            ·
             obtain rfl : j = g.actors.length := by omega
             have hlti : ¬ ((g.actors.length : Int) < g.actors.length) := by omega
             have e : N = 0 := by
              rw [← HOP.out]
              unfold openR
              rw [if_neg]
              intro h
              obtain ⟨k, hk, h2⟩ := List.any_eq_true.1 h
              rw [HRO.out k (List.mem_range.1 hk)] at h2
              cases h2
             subst e
             clear hlt hj
             have z0 := cells_row _ _ HKO.out.res 0 _ rfl
             have z1 := cells_row _ _ HKO.out.res 1 _ rfl
             have z2 := cells_row _ _ HKO.out.res 2 _ rfl
             have z3 := cells_row _ _ HKO.out.res 3 _ rfl
             have f0 := frozen_of_block HKO.out.res 0
             have f1 := frozen_of_block HKO.out.res 1
             have f2 := frozen_of_block HKO.out.res 2
             have f3 := frozen_of_block HKO.out.res 3
             go_wp2
             refine bodyPost_ret_by (results_cell_row rfl _ _ _ _ _ _ _ rfl (wrong_set HKO.out.res) Try.underlying153 rfl (by kernel_rfl)) rfl ?_
             exact ⟨⟨_, _, _, rfl⟩, wrong_below HKO.out.below (Nat.le_succ _) _ _ _ _⟩
  ·
   have e : M = N := by
    rw [← HN.out, HH.out, HM.out]
    exact (if_pos hM0).symm
   have hb : (M != 0) = true := by rw [bne_iff_ne]; exact hM0
   subst e
   clear hM0
   have z0 := cells_row _ _ HF3.out.res 0 _ rfl
   have z1 := cells_row _ _ HF3.out.res 1 _ rfl
   have z2 := cells_row _ _ HF3.out.res 2 _ rfl
   have z3 := cells_row _ _ HF3.out.res 3 _ rfl
   have f0 := frozen_of_block HF3.out.res 0
   have f1 := frozen_of_block HF3.out.res 1
   have f2 := frozen_of_block HF3.out.res 2
   have f3 := frozen_of_block HF3.out.res 3
   go_wp2
   refine bodyPost_ret_by (results_cell_row rfl _ _ _ _ _ _ _ rfl (wrong_set HF3.out.res) Try.underlying153 rfl (by kernel_rfl)) rfl ?_
   exact ⟨⟨_, _, _, rfl⟩, wrong_below HF3.out.below (Nat.le_succ _) _ _ _ _⟩
theorem field_code (x : Int) (b c d : Value) (w : World) : (Instr.field 153 (.agg #[.int .i64 x, b, c, d]) 0).run Try.prog w = .ok (.int .i64 x) w := by kernel_rfl
set_option maxRecDepth 100000 in
theorem xcheck_any (w : World) (v : Value) (g : GGraph) (h : HasGraph w v g) (hs : GSized g) : Calls Try.prog 47 #[v] w (Tells (.int .i64 (checkE g)) w) := by
 rw [← ref_graph]
 obtain ⟨va, ve, vi, vo, rfl, _⟩ := h.shape
 have hb := below_alloc w (.cells #[.string g.name, va, ve, vi, vo] 26)
 have hX := heap_alloc_new w (.cells #[.string g.name, va, ve, vi, vo] 26)
 have x0 := cells_row _ _ hX 0 _ rfl
 have x1 := cells_row _ _ hX 1 _ rfl
 have x2 := cells_row _ _ hX 2 _ rfl
 have x3 := cells_row _ _ hX 3 _ rfl
 have x4 := cells_row _ _ hX 4 _ rfl
 have HF := Lib.hid (xfind_any _ _ g (h.below hb) hs)
 have HB := Lib.hid hb
 obtain ⟨N, hN⟩ : ∃ N, refE g = N := ⟨_, rfl⟩
 rw [hN] at HF ⊢
 clear h hs hb hX hN
 go_enter Try.func47, Try.ntmps47
 go_wp2_with fail
 refine HF.out.mono ?_
 rintro e w2 ⟨⟨k, it, en, rfl⟩, hb2⟩
 have HB2 := Lib.hid (HB.out.trans (hb2.mono HB.out.size))
 clear hb2
 have hfc := field_code N (.int .u8 k) (.int .i64 it) (.int .i64 en) w2
 go_wp2
 go_ret
 exact ⟨rfl, HB2.out⟩
end Go.Proofs.Ytbmbfifempkhgaa

/- The reference's checks of a nest: find, total, Check. -/
namespace Go.Proofs.Ytbmbfifempkhgaa
open Go.RowKit
def FindOk (D : Nat) : Prop := ∀ (w : World) (v : Value) (l : Nest) (d n : Nat), HasNestD D w v l → NSized l → d ≤ 16 → n ≤ 2048 → Calls Try.prog 82 #[v, .int .i64 d, .int .i64 n] w (Tells (.tuple #[.int .i64 (nestE l d n).1, .int .i64 ((nestE l d n).2 : Nat)]) w)
set_option maxRecDepth 100000 in
theorem find_zero : FindOk 0 := by
 intro w v l d n hv hs hd hn
 obtain ⟨rfl, ao, cap, rfl⟩ := hv
 clear hs hd hn
 go_enter Try.func82, Try.ntmps82
 go_wp2_with fail
 go_loopw [2, 8] (fun a i wr => i = .int .i64 0 ∧ a = .int .i64 n ∧ wr = w) (fun _ _ _ => 0)
 case atStart => exact ⟨rfl, rfl, rfl⟩
 case round =>
  obtain ⟨rfl, rfl, rfl⟩ := hrel
  go_wp2
  go_ret2
  exact ⟨rfl, Below.refl _ _⟩
/- it is no nest: $1 the error -/
set_option maxRecDepth 100000 in
set_option maxHeartbeats 2000000 in
theorem find_succ {D : Nat} (hrec : FindOk D) : FindOk (D + 1) := by
 intro w v l d n0 hv hs hd hn
 have hv' : Recs w 3 (fun w x cs => ∃ y, cs = [.int .i64 x.1, .int .i64 x.2.1, y] ∧ HasNestD D w y x.2.2) v l.items := hv
 obtain ⟨ao, cap, rfl⟩ := hv'.slice
 obtain ⟨r, hr⟩ : ∃ r, nestE l d n0 = r := ⟨_, rfl⟩
 rw [hr]
 have HE := Lib.hid (show nestE (l.drop 0) d n0 = r by rw [drop_zero]; exact hr)
 have HV := Lib.hid hv'
 have HS := Lib.hid hs
 have HL := Lib.hid (nsized_len hs)
 have HREC := Lib.hid hrec
 clear hv hv' hs hrec hr
 go_enter Try.func82, Try.ntmps82
 go_wp2_with fail
 go_loopw [2, 8] (fun a i wr => ∃ (j n : Nat), j ≤ l.items.length ∧ i = .int .i64 j ∧ a = .int .i64 n ∧ n ≤ 2048 ∧ Below w.heap.size w wr ∧ nestE (l.drop j) d n = r) (fun _ i _ => l.items.length - (intOf i).toNat)
 case atStart => exact ⟨0, n0, Nat.zero_le _, rfl, rfl, hn, Below.refl _ _, HE.out⟩
 case round =>
  clear HE
  obtain ⟨j, n, hj, rfl, rfl, hn1, hb, hE⟩ := hrel
  have HB := Lib.hid hb
  by_cases hlt : j < l.items.length
  ·
   have hlti : (j : Int) < l.items.length := by omega
   obtain ⟨b0, off, rfl, hcap, hb0, hrec⟩ := HV.out.at (by omega)
   obtain ⟨cs, hcs, hPR, hcl⟩ := hrec j hlt
   obtain ⟨y, rfl, hy⟩ := hPR
   have c0 := cell_later HB.out (hcl 0 (by omega))
   have c1 := cell_later HB.out (hcl 1 (by omega))
   have c2 := cell_later HB.out (hcl 2 (by omega))
   simp at c0 c1 c2
   have hcapi : (l.items.length : Int) ≤ cap := by omega
   rw [drop_items l j hlt, nestE_cons] at hE
   have HY := Lib.hid hy
   have HSb := Lib.hid (nsized_at HS.out _ (List.getElem_mem hlt))
   obtain ⟨ya, yc, hys⟩ := nestD_slice D hy
   subst hys
   clear hcl hcs hrec hy hb hcap
   generalize (l.items[j]).1 = t at *
   generalize (l.items[j]).2.1 = nd at *
   generalize (l.items[j]).2.2 = b at *
   have hbX := below_alloc wr (.cells #[.int .i64 t, .int .i64 nd, .slice ya b.items.length yc] 51)
   have HBX := Lib.hid (HB.out.trans (hbX.mono HB.out.size))
   have hX := heap_alloc_new wr (.cells #[.int .i64 t, .int .i64 nd, .slice ya b.items.length yc] 51)
   have x0 := cells_row _ _ hX 0 (.int .i64 t) rfl
   have x1 := cells_row _ _ hX 1 (.int .i64 nd) rfl
   have x2 := cells_row _ _ hX 2 (.slice ya b.items.length yc) rfl
   have hnil := isNil_len b
   generalize hm : b.items.length = m at *
   have hll := HL.out
   unfold oneE at hE
   clear hbX hX
   by_cases h1 : 2048 ≤ n
   ·
    have he : r = (5, n) := by rw [← hE, if_pos h1, if_pos (by simp)]
    clear hE
    subst he
    go_wp2
    go_ret2
    exact ⟨rfl, HBX.out⟩
   rw [if_neg h1] at hE
   by_cases hz : m = 0
   ·
    subst hz
    rw [hnil] at hE
    simp only [decide_true, Bool.not_true, Bool.false_and, Bool.true_and, if_true, Bool.false_eq_true, if_false] at hE
    by_cases h3 : t < 1
    ·
     have he : r = (160, n) := by rw [← hE, if_pos h3, if_pos (by simp)]
     clear hE
     subst he
     go_wp2
     go_ret2
     exact ⟨rfl, HBX.out⟩
    rw [if_neg h3] at hE
    by_cases h4 : nd < 0
    ·
     have he : r = (100, n) := by rw [← hE]; simp [h4]
     clear hE
     subst he
     go_wp2
     go_ret2
     exact ⟨rfl, HBX.out⟩
    by_cases h5 : 32 ≤ nd
    ·
     have he : r = (100, n) := by rw [← hE]; simp [h5]
     clear hE
     subst he
     go_wp2
     go_ret2
     exact ⟨rfl, HBX.out⟩
    have hE2 : nestE (l.drop (j + 1)) d (n + 1) = r := by rw [← hE]; simp [h4, h5]
    have HE2 := Lib.hid hE2
    clear hE hE2
    go_wp2
    go_roundw
    case rel => exact ⟨j + 1, n + 1, hlt, by go_num, by go_num, by omega, HBX.out, HE2.out⟩
    case measure => simp [intOf]; omega
   ·
    have hzi : (0 : Int) < m := by omega
    have hzb : ((m : Int) == 0) = false := by rw [beq_eq_false_iff_ne]; omega
    rw [hnil, decide_eq_false hz] at hE
    simp only [Bool.not_false, Bool.true_and, Bool.false_and, Bool.false_eq_true, if_false, decide_eq_true_eq] at hE
    by_cases h2 : 16 ≤ d
    ·
     have he : r = (161, n) := by rw [← hE, if_pos h2, if_pos (by simp)]
     clear hE
     subst he
     go_wp2
     go_ret2
     exact ⟨rfl, HBX.out⟩
    rw [if_neg h2] at hE
    by_cases h3 : t < 1
    ·
     have he : r = (160, n) := by rw [← hE, if_pos h3, if_pos (by simp)]
     clear hE
     subst he
     go_wp2
     go_ret2
     exact ⟨rfl, HBX.out⟩
    rw [if_neg h3] at hE
    by_cases h4 : nd = 0
    ·
     simp only [h4, ne_eq, not_true_eq_false, if_false] at hE
     have h4b : (nd != 0) = false := by rw [bne_eq_false_iff_eq]; exact h4
     have HE2 := Lib.hid hE
     clear hE h4
     go_wp2_with fail
     refine (HREC.out _ _ b (d + 1) n (nestD_below D HY.out HBX.out) HSb.out (by omega) hn1).mono ?_
     rintro e w4 ⟨rfl, hb4⟩
     have HB4 := Lib.hid (HBX.out.trans (hb4.mono HBX.out.size))
     have hle := nestE_le b (d + 1) n hn1
     obtain ⟨q, hq⟩ : ∃ q, nestE b (d + 1) n = q := ⟨_, rfl⟩
     have hE3 := HE2.out
     rw [hq] at hle hE3 ⊢
     obtain ⟨e2, n2⟩ := q
     simp only at hle hE3 ⊢
     clear hb4 hq HE2
     by_cases h6 : e2 = 0
     ·
      subst h6
      rw [if_neg (by simp)] at hE3
      have HE4 := Lib.hid hE3
      clear hE3
      go_wp2
      go_roundw
      case rel => exact ⟨j + 1, n2, hlt, by go_num, rfl, hle, HB4.out, HE4.out⟩
      case measure => simp [intOf]; omega
     ·
      have he : r = (e2, n2) := by rw [← hE3, if_pos h6]
      have h6b : (e2 != 0) = true := by rw [bne_iff_ne]; exact h6
      subst he
      clear hE3
      go_wp2
      go_ret2
      exact ⟨rfl, HB4.out⟩
    ·
     have he : r = (162, n) := by rw [← hE]; simp [h4]
     have h4b : (nd != 0) = true := by rw [bne_iff_ne]; exact h4
     clear hE
     subst he
     go_wp2
     go_ret2
     exact ⟨rfl, HBX.out⟩
  ·
   obtain rfl : j = l.items.length := by omega
   rw [drop_end, nestE] at hE
   subst hE
   clear hb
   go_wp2
   go_ret2
   exact ⟨rfl, HB.out⟩
theorem find_any : ∀ D, FindOk D
 | 0 => find_zero
 | D + 1 => find_succ (find_any D)
end Go.Proofs.Ytbmbfifempkhgaa

/- The reference's total of a nest, and its Check. -/
namespace Go.Proofs.Ytbmbfifempkhgaa
open Go.RowKit
theorem total_ge : ∀ (l : Nest) (s : Int), TimesOk l → 0 ≤ s → s ≤ 2048 → s ≤ totalP l s
 | .nil, s, _, _, _ => by simp only [totalP]; omega
 | .cons t _ b r, s, h, h1, h2 => by
  have hn : 0 ≤ (if b.isNil then (1 : Int) else totalP b 0) ∧ (if b.isNil then (1 : Int) else totalP b 0) ≤ 2049 := by
   split
   ·
    omega
   ·
    exact total_b b 0 h.2.1 (by omega) (by omega)
  simp only [totalP]
  generalize (if b.isNil then (1 : Int) else totalP b 0) = n at *
  split
  ·
   omega
  ·
   rename_i h3
   have hp := prod_b hn.1 (by omega) h.1 (by omega : t ≤ 2048)
   split
   ·
    omega
   ·
    have := total_ge r _ h.2.2 (show 0 ≤ s + n * t by omega) (by omega)
    omega
theorem total_pos : ∀ (l : Nest) (s : Int), TimesOk l → l.isNil = false → 0 ≤ s → s ≤ 2048 → 1 ≤ totalP l s
 | .nil, _, _, hn, _, _ => by cases hn
 | .cons t _ b r, s, h, _, h1, h2 => by
  have hn : 1 ≤ (if b.isNil then (1 : Int) else totalP b 0) ∧ (if b.isNil then (1 : Int) else totalP b 0) ≤ 2049 := by
   split
   ·
    omega
   ·
    rename_i hb
    exact ⟨total_pos b 0 h.2.1 (by simpa using hb) (by omega) (by omega), (total_b b 0 h.2.1 (by omega) (by omega)).2⟩
  simp only [totalP]
  generalize (if b.isNil then (1 : Int) else totalP b 0) = n at *
  split
  ·
   omega
  ·
   rename_i h3
   have hp := prod_b (show 0 ≤ n by omega) (by omega) h.1 (by omega : t ≤ 2048)
   have hp2 : 1 ≤ n * t := by
    have := Int.mul_le_mul hn.1 h.1 (by omega) (by omega)
    omega
   split
   ·
    omega
   ·
    have := total_ge r _ h.2.2 (show 0 ≤ s + n * t by omega) (by omega)
    omega
theorem quo_more {n t : Int} (h1 : 1 ≤ n) : (Int.tdiv 2048 n < t) ↔ 2048 < n * t := by
 rw [Int.tdiv_eq_ediv_of_nonneg (by omega), Int.ediv_lt_iff_lt_mul (by omega), Int.mul_comm]
theorem quo_b {n : Int} (h1 : 1 ≤ n) : 0 ≤ Int.tdiv 2048 n ∧ Int.tdiv 2048 n ≤ 2048 := by
 rw [Int.tdiv_eq_ediv_of_nonneg (by omega)]
 exact ⟨Int.ediv_nonneg (by omega) (by omega), Int.ediv_le_self _ (by omega)⟩
def TotOk (D : Nat) : Prop := ∀ (w : World) (v : Value) (l : Nest), HasNestD D w v l → NSized l → TimesOk l → Calls Try.prog 83 #[v] w (Tells (.int .i64 (totalP l 0)) w)
set_option maxRecDepth 100000 in
theorem tot_zero : TotOk 0 := by
 intro w v l hv hs ht
 obtain ⟨rfl, ao, cap, rfl⟩ := hv
 clear hs ht
 go_enter Try.func83, Try.ntmps83
 go_wp2_with fail
 go_loopw [3, 4] (fun s i wr => i = .int .i64 0 ∧ s = .int .i64 0 ∧ wr = w) (fun _ _ _ => 0)
 case atStart => exact ⟨rfl, rfl, rfl⟩
 case round =>
  obtain ⟨rfl, rfl, rfl⟩ := hrel
  go_wp2
  go_ret
  exact ⟨rfl, Below.refl _ _⟩
/- the test of the product, and the sum: $1 how much is inside, $2 its fact, $3 Below's fact -/
set_option maxRecDepth 100000 in
set_option maxHeartbeats 2000000 in
theorem tot_succ {D : Nat} (htot : TotOk D) : TotOk (D + 1) := by
 intro w v l hv hs ht
 have hv' : Recs w 3 (fun w x cs => ∃ y, cs = [.int .i64 x.1, .int .i64 x.2.1, y] ∧ HasNestD D w y x.2.2) v l.items := hv
 obtain ⟨ao, cap, rfl⟩ := hv'.slice
 obtain ⟨r, hr⟩ : ∃ r, totalP l 0 = r := ⟨_, rfl⟩
 rw [hr]
 have HE := Lib.hid (show totalP (l.drop 0) 0 = r by rw [drop_zero]; exact hr)
 have HV := Lib.hid hv'
 have HS := Lib.hid hs
 have HTM := Lib.hid ht
 have HL := Lib.hid (nsized_len hs)
 have HTOT := Lib.hid htot
 clear hv hv' hs ht htot hr
 go_enter Try.func83, Try.ntmps83
 go_wp2_with fail
 go_loopw [3, 4] (fun sv i wr => ∃ (j : Nat) (s : Int), j ≤ l.items.length ∧ i = .int .i64 j ∧ sv = .int .i64 s ∧ 0 ≤ s ∧ s ≤ 2048 ∧ Below w.heap.size w wr ∧ totalP (l.drop j) s = r) (fun _ i _ => l.items.length - (intOf i).toNat)
 case atStart => exact ⟨0, 0, Nat.zero_le _, rfl, rfl, by omega, by omega, Below.refl _ _, HE.out⟩
 case round =>
  clear HE
  obtain ⟨j, s, hj, rfl, rfl, hs0, hs1, hb, hE⟩ := hrel
  have HB := Lib.hid hb
  by_cases hlt : j < l.items.length
  ·
   have hlti : (j : Int) < l.items.length := by omega
   obtain ⟨b0, off, rfl, hcap, hb0, hrec⟩ := HV.out.at (by omega)
   obtain ⟨cs, hcs, hPR, hcl⟩ := hrec j hlt
   obtain ⟨y, rfl, hy⟩ := hPR
   have a0 := hcl 0 (by omega)
   have a2 := hcl 2 (by omega)
   simp at a0 a2
   have c2 := cell_later HB.out a2
   have hcapi : (l.items.length : Int) ≤ cap := by omega
   rw [drop_items l j hlt] at hE
   have HY := Lib.hid hy
   have HSb := Lib.hid (nsized_at HS.out _ (List.getElem_mem hlt))
   have hta := times_at HTM.out _ (List.getElem_mem hlt)
   obtain ⟨ya, yc, hys⟩ := nestD_slice D hy
   subst hys
   clear hcl hcs hrec hy hb hcap
   generalize (l.items[j]).1 = t at *
   generalize (l.items[j]).2.1 = nd at *
   generalize (l.items[j]).2.2 = b at *
   have HA0 := Lib.hid a0
   have HEC := Lib.hid hE
   obtain ⟨ht1, htb⟩ := hta
   have HTB := Lib.hid htb
   have hnil := isNil_len b
   generalize hm : b.items.length = m at *
   have hll := HL.out
   clear hE htb a0 a2
   by_cases hz : m = 0
   ·
    subst hz
    have HN1 := Lib.hid (show (if b.isNil then (1 : Int) else totalP b 0) = 1 by rw [hnil]; rfl)
    have h2048 : IntKind.i64.wrap 2048 = 2048 := IntWalk.i64_in _ (by omega)
    go_wp2_with fail
    clear c2
    by_cases h1 : 2048 < t
    ·
     have e : r = 2049 := by rw [← HEC.out, totalP_cons t nd b _ s 1 HN1.out, if_pos (.inl h1)]
     subst e
     have c0 := cell_later (HB).out HA0.out
     refine wp_region_lex (fun w' => w'.cell? ⟨b0, off + j * 3, none⟩ = some (.int .i64 t)) [0, 1, 2, 3, 4, 5, 6, 7, 8, 9, 10, 11] [] (by kernel_rfl) (by kernel_rfl) rfl (fun _ _ hx h => hx.cell h) c0 ?_
     intro Q' hQ'
     simp only [pickOps, List.flatMap_cons, List.flatMap_nil, List.drop_succ_cons, List.drop_zero, List.take_succ_cons, List.take_zero, List.cons_append, List.nil_append, List.append_nil]
     repeat (first
      | (refine wpReads_skip (by rfl) ?_; (try simp only [Act.put, List.setIfInBounds_toArray, List.set_cons_zero, List.set_cons_succ]))
      | (refine wpReads_cons ?_ (by rfl) (by rfl) ?_ ?_; rotate_left; (intro wz hz; (try dsimp only at hz); go_simp; try with_reducible rfl); (try simp only [Act.put, List.setIfInBounds_toArray, List.set_cons_zero, List.set_cons_succ]))
      | (refine wpReads_any ?_ (by rfl) ?_ ?_; rotate_left; (intro wz; go_simp; try with_reducible rfl); (try simp only [Act.put, List.setIfInBounds_toArray, List.set_cons_zero, List.set_cons_succ])))
     refine wpReads_nil ?_
     have c0 := cell_later (HB).out.drew HA0.out
     go_wp2
     go_ret
     exact ⟨rfl, HB.out.drew⟩
    ·
     have hr2 := HEC.out
     rw [totalP_cons t nd b _ s 1 HN1.out, if_neg (by omega), Int.one_mul] at hr2
     have HR2 := Lib.hid hr2
     clear hr2
     have c0 := cell_later (HB).out HA0.out
     refine wp_region_lex (fun w' => w'.cell? ⟨b0, off + j * 3, none⟩ = some (.int .i64 t)) [0, 1, 2, 3, 4, 5, 6, 7, 8, 9, 10, 11] [] (by kernel_rfl) (by kernel_rfl) rfl (fun _ _ hx h => hx.cell h) c0 ?_
     intro Q' hQ'
     simp only [pickOps, List.flatMap_cons, List.flatMap_nil, List.drop_succ_cons, List.drop_zero, List.take_succ_cons, List.take_zero, List.cons_append, List.nil_append, List.append_nil]
     repeat (first
      | (refine wpReads_skip (by rfl) ?_; (try simp only [Act.put, List.setIfInBounds_toArray, List.set_cons_zero, List.set_cons_succ]))
      | (refine wpReads_cons ?_ (by rfl) (by rfl) ?_ ?_; rotate_left; (intro wz hz; (try dsimp only at hz); go_simp; try with_reducible rfl); (try simp only [Act.put, List.setIfInBounds_toArray, List.set_cons_zero, List.set_cons_succ]))
      | (refine wpReads_any ?_ (by rfl) ?_ ?_; rotate_left; (intro wz; go_simp; try with_reducible rfl); (try simp only [Act.put, List.setIfInBounds_toArray, List.set_cons_zero, List.set_cons_succ])))
     refine wpReads_nil ?_
     have c0 := cell_later (HB).out.drew HA0.out
     by_cases h3 : 2048 < s + t
     ·
      have e : r = 2049 := by rw [← HR2.out, if_pos h3]
      subst e
      go_wp2
      go_ret
      exact ⟨rfl, HB.out.drew⟩
     ·
      have HR3 := Lib.hid (show totalP (l.drop (j + 1)) (s + t) = r by rw [← HR2.out, if_neg h3])
      go_wp2
      go_roundw
      case rel => exact ⟨j + 1, s + t, hlt, by go_num, rfl, by omega, by omega, HB.out.drew, HR3.out⟩
      case measure => simp [intOf]; omega
   ·
    have hzi : (0 : Int) < m := by omega
    have HN1 := Lib.hid (show (if b.isNil then (1 : Int) else totalP b 0) = totalP b 0 by rw [hnil, decide_eq_false hz]; rfl)
    obtain ⟨tn0, tn1⟩ := total_b b 0 HTB.out (by omega) (by omega)
    have tn2 := total_pos b 0 HTB.out (by rw [hnil]; simpa using hz) (by omega) (by omega)
    go_wp2_with fail
    refine (HTOT.out _ _ b (nestD_below D HY.out HB.out) HSb.out HTB.out).mono ?_
    rintro e w4 ⟨rfl, hb4⟩
    have HB4 := Lib.hid (HB.out.trans (hb4.mono HB.out.size))
    clear hb4 HTB c2
    obtain ⟨n, hne⟩ : ∃ n, totalP b 0 = n := ⟨_, rfl⟩
    have HN2 := Lib.hid (HN1.out.trans hne)
    rw [hne] at tn0 tn1 tn2 ⊢
    clear hne HN1
    have hq := quo_more (n := n) (t := t) tn2
    have hqb := quo_b tn2
    obtain ⟨q, hqe⟩ : ∃ q, Int.tdiv 2048 n = q := ⟨_, rfl⟩
    obtain ⟨p, hpe⟩ : ∃ p, n * t = p := ⟨_, rfl⟩
    have hpe2 : t * n = p := by rw [Int.mul_comm]; exact hpe
    have hr2 := HEC.out
    rw [totalP_cons t nd b _ s n HN2.out, hpe] at hr2
    rw [hqe, hpe] at hq
    rw [hqe] at hqb
    have hvq : IntKind.i64.wrap (Int.tdiv 2048 n) = q := by rw [hqe]; exact IntWalk.i64_in _ (by omega)
    have hnz : n ≠ 0 := by omega
    have hnb : (n == (0 : Int)) = false := by rw [beq_eq_false_iff_ne]; exact hnz
    have HPP := Lib.hid (prod_b (n := n) (t := t))
    rw [hpe] at HPP
    have HR2 := Lib.hid hr2
    clear hr2 hqe hpe
    by_cases h2 : 2048 < n
    ·
     have e : r = 2049 := by rw [← HR2.out, if_pos (.inr h2)]
     subst e
     go_wp2_with fail
     have c0 := cell_later (HB4).out HA0.out
     refine wp_region_lex (fun w' => w'.cell? ⟨b0, off + j * 3, none⟩ = some (.int .i64 t)) [0, 1, 2, 3, 4, 5, 6, 7, 8, 9, 10, 11] [] (by kernel_rfl) (by kernel_rfl) rfl (fun _ _ hx h => hx.cell h) c0 ?_
     intro Q' hQ'
     simp only [pickOps, List.flatMap_cons, List.flatMap_nil, List.drop_succ_cons, List.drop_zero, List.take_succ_cons, List.take_zero, List.cons_append, List.nil_append, List.append_nil]
     repeat (first
      | (refine wpReads_skip (by rfl) ?_; (try simp only [Act.put, List.setIfInBounds_toArray, List.set_cons_zero, List.set_cons_succ]))
      | (refine wpReads_cons ?_ (by rfl) (by rfl) ?_ ?_; rotate_left; (intro wz hz; (try dsimp only at hz); go_simp; try with_reducible rfl); (try simp only [Act.put, List.setIfInBounds_toArray, List.set_cons_zero, List.set_cons_succ]))
      | (refine wpReads_any ?_ (by rfl) ?_ ?_; rotate_left; (intro wz; go_simp; try with_reducible rfl); (try simp only [Act.put, List.setIfInBounds_toArray, List.set_cons_zero, List.set_cons_succ])))
     refine wpReads_nil ?_
     have c0 := cell_later (HB4).out.drew HA0.out
     go_wp2
     go_ret
     exact ⟨rfl, HB4.out.drew⟩
    ·
     by_cases h1 : q < t
     ·
      have hp1 := hq.1 h1
      have e : r = 2049 := by
       rw [← HR2.out]
       by_cases h4 : 2048 < t ∨ 2048 < n
       ·
        rw [if_pos h4]
       ·
        rw [if_neg h4, if_pos (by omega)]
      subst e
      go_wp2_with fail
      have d2 : decide (2048 < n) = false := decide_eq_false (by omega)
      have d1 : decide (q < t) = true := decide_eq_true (by omega)
      have c0 := cell_later (HB4).out HA0.out
      refine wp_region_lex (fun w' => w'.cell? ⟨b0, off + j * 3, none⟩ = some (.int .i64 t)) [0, 1, 2, 3, 4, 5, 6, 7, 8, 9, 10, 11] [] (by kernel_rfl) (by kernel_rfl) rfl (fun _ _ hx h => hx.cell h) c0 ?_
      intro Q' hQ'
      simp only [pickOps, List.flatMap_cons, List.flatMap_nil, List.drop_succ_cons, List.drop_zero, List.take_succ_cons, List.take_zero, List.cons_append, List.nil_append, List.append_nil]
      repeat (first
       | (refine wpReads_skip (by rfl) ?_; (try simp only [Act.put, List.setIfInBounds_toArray, List.set_cons_zero, List.set_cons_succ]))
       | (refine wpReads_cons ?_ (by rfl) (by rfl) ?_ ?_; rotate_left; (intro wz hz; (try dsimp only at hz); go_simp; try with_reducible rfl); (try simp only [Act.put, List.setIfInBounds_toArray, List.set_cons_zero, List.set_cons_succ]))
       | (refine wpReads_any ?_ (by rfl) ?_ ?_; rotate_left; (intro wz; go_simp; try with_reducible rfl); (try simp only [Act.put, List.setIfInBounds_toArray, List.set_cons_zero, List.set_cons_succ])))
      refine wpReads_nil ?_
      have c0 := cell_later (HB4).out.drew HA0.out
      go_wp2
      go_ret
      exact ⟨rfl, HB4.out.drew⟩
     ·
      have hp1 : ¬ 2048 < p := fun h => h1 (hq.2 h)
      have ht2 : t ≤ 2048 := by omega
      have hpp := HPP.out (by omega) (by omega) ht1 ht2
      have hwm : wrap64 (t * n) = p := by rw [hpe2]; exact IntWalk.wrap64_in _ (by omega)
      have hr3 := HR2.out
      rw [if_neg (by omega)] at hr3
      have HR4 := Lib.hid hr3
      clear hr3 hpe2 hq
      go_wp2_with fail
      have d2 : decide (2048 < n) = false := decide_eq_false (by omega)
      have d1 : decide (q < t) = false := decide_eq_false (by omega)
      have c0 := cell_later (HB4).out HA0.out
      refine wp_region_lex (fun w' => w'.cell? ⟨b0, off + j * 3, none⟩ = some (.int .i64 t)) [0, 1, 2, 3, 4, 5, 6, 7, 8, 9, 10, 11] [] (by kernel_rfl) (by kernel_rfl) rfl (fun _ _ hx h => hx.cell h) c0 ?_
      intro Q' hQ'
      simp only [pickOps, List.flatMap_cons, List.flatMap_nil, List.drop_succ_cons, List.drop_zero, List.take_succ_cons, List.take_zero, List.cons_append, List.nil_append, List.append_nil]
      repeat (first
       | (refine wpReads_skip (by rfl) ?_; (try simp only [Act.put, List.setIfInBounds_toArray, List.set_cons_zero, List.set_cons_succ]))
       | (refine wpReads_cons ?_ (by rfl) (by rfl) ?_ ?_; rotate_left; (intro wz hz; (try dsimp only at hz); go_simp; try with_reducible rfl); (try simp only [Act.put, List.setIfInBounds_toArray, List.set_cons_zero, List.set_cons_succ]))
       | (refine wpReads_any ?_ (by rfl) ?_ ?_; rotate_left; (intro wz; go_simp; try with_reducible rfl); (try simp only [Act.put, List.setIfInBounds_toArray, List.set_cons_zero, List.set_cons_succ])))
      refine wpReads_nil ?_
      have c0 := cell_later (HB4).out.drew HA0.out
      by_cases h3 : 2048 < s + p
      ·
       have e : r = 2049 := by rw [← HR4.out, if_pos h3]
       subst e
       go_wp2
       go_ret
       exact ⟨rfl, HB4.out.drew⟩
      ·
       have HR3 := Lib.hid (show totalP (l.drop (j + 1)) (s + p) = r by rw [← HR4.out, if_neg h3])
       go_wp2
       go_roundw
       case rel => exact ⟨j + 1, s + p, hlt, by go_num, rfl, by omega, by omega, HB4.out.drew, HR3.out⟩
       case measure => simp [intOf]; omega
  ·
   obtain rfl : j = l.items.length := by omega
   have e := hE
   rw [drop_end, totalP] at e
   subst e
   clear hb hE
   go_wp2
   go_ret
   exact ⟨rfl, HB.out⟩
theorem tot_any : ∀ D, TotOk D
 | 0 => tot_zero
 | D + 1 => tot_succ (tot_any D)
set_option maxRecDepth 100000 in
theorem r16check_any (D : Nat) (w : World) (v : Value) (l : Nest) (hv : HasNestD D w v l) (hs : NSized l) : Calls Try.prog 48 #[v] w (Tells (.int .i64 (nestCheckE l)) w) := by
 obtain ⟨ya, yc, rfl⟩ := nestD_slice D hv
 obtain ⟨N, hN⟩ : ∃ x, nestCheckE l = x := ⟨_, rfl⟩
 rw [hN]
 have HV := Lib.hid hv
 have HS := Lib.hid hs
 have HN := Lib.hid hN
 clear hv hs hN
 go_enter Try.func48, Try.ntmps48
 go_wp2_with fail
 refine (find_any D _ _ l 0 0 HV.out HS.out (by omega) (by omega)).mono ?_
 rintro e w2 ⟨rfl, hb2⟩
 have HB2 := Lib.hid hb2
 by_cases h0 : (nestE l 0 0).1 = 0
 ·
  have HT := Lib.hid (times_of l 0 0 h0)
  have HC : Hid (N = if 2048 < totalP l 0 then 5 else 0) := Lib.hid (by rw [← HN.out]; unfold nestCheckE; rw [if_neg (by simp [h0])])
  rw [h0]
  clear h0 hb2
  go_wp2_with fail
  refine (tot_any D _ _ l (nestD_below D HV.out HB2.out) HS.out HT.out).mono ?_
  rintro e w3 ⟨rfl, hb3⟩
  have HB3 := Lib.hid (HB2.out.trans (hb3.mono HB2.out.size))
  have hC := HC.out
  clear hb3
  by_cases h1 : 2048 < totalP l 0
  ·
   rw [if_pos h1] at hC
   subst hC
   go_wp2
   go_ret
   exact ⟨rfl, HB3.out⟩
  ·
   rw [if_neg h1] at hC
   subst hC
   go_wp2
   go_ret
   exact ⟨rfl, HB3.out⟩
 ·
  have HC : N = (nestE l 0 0).1 := by rw [← HN.out]; unfold nestCheckE; rw [if_pos h0]
  have h0b : ((nestE l 0 0).1 != 0) = true := by rw [bne_iff_ne]; exact h0
  subst HC
  clear hb2
  go_wp2
  go_ret
  exact ⟨rfl, HB2.out⟩
end Go.Proofs.Ytbmbfifempkhgaa

/- The reference's strange and deepest. -/
namespace Go.Proofs.Ytbmbfifempkhgaa
open Go.RowKit
def RStrOk (D : Nat) : Prop := ∀ (w : World) (v : Value) (l : Nest) (a : Int), HasNestD D w v l → NSized l → Calls Try.prog 49 #[v, .int .i64 a] w (Tells (.bool (strangeP l a)) w)
set_option maxRecDepth 100000 in
theorem rstr_zero : RStrOk 0 := by
 intro w v l a hv hs
 obtain ⟨rfl, ao, cap, rfl⟩ := hv
 clear hs
 go_enter Try.func49, Try.ntmps49
 go_wp2_with fail
 go_loopw [5] (fun i wr => i = .int .i64 0 ∧ wr = w) (fun _ _ => 0)
 case atStart => exact ⟨rfl, rfl⟩
 case round =>
  obtain ⟨rfl, rfl⟩ := hrel
  go_wp2
  go_ret
  exact ⟨rfl, Below.refl _ _⟩
/- it is: $1 the facts, $2 Below -/
set_option maxRecDepth 100000 in
set_option maxHeartbeats 1000000 in
theorem rstr_succ {D : Nat} (hstr : RStrOk D) : RStrOk (D + 1) := by
 intro w v l a hv hs
 have hv' : Recs w 3 (fun w x cs => ∃ y, cs = [.int .i64 x.1, .int .i64 x.2.1, y] ∧ HasNestD D w y x.2.2) v l.items := hv
 obtain ⟨ao, cap, rfl⟩ := hv'.slice
 obtain ⟨r, hr⟩ : ∃ r, strangeP l a = r := ⟨_, rfl⟩
 rw [hr]
 have HE := Lib.hid (show strangeP (l.drop 0) a = r by rw [drop_zero]; exact hr)
 have HV := Lib.hid hv'
 have HS := Lib.hid hs
 have HL := Lib.hid (nsized_len hs)
 have HSTR := Lib.hid hstr
 clear hv hv' hs hstr hr
 go_enter Try.func49, Try.ntmps49
 go_wp2_with fail
 go_loopw [5] (fun i wr => ∃ (j : Nat), j ≤ l.items.length ∧ i = .int .i64 j ∧ Below w.heap.size w wr ∧ strangeP (l.drop j) a = r) (fun i _ => l.items.length - (intOf i).toNat)
 case atStart => exact ⟨0, Nat.zero_le _, rfl, Below.refl _ _, HE.out⟩
 case round =>
  clear HE
  obtain ⟨j, hj, rfl, hb, hE⟩ := hrel
  have HB := Lib.hid hb
  have HE := Lib.hid hE
  clear hb hE
  by_cases hlt : j < l.items.length
  ·
   have hlti : (j : Int) < l.items.length := by omega
   obtain ⟨b0, off, rfl, hcap, hb0, hrec⟩ := HV.out.at (by omega)
   obtain ⟨cs, hcs, hPR, hcl⟩ := hrec j hlt
   obtain ⟨y, rfl, hy⟩ := hPR
   have c1 := cell_later HB.out (hcl 1 (by omega))
   have c2 := cell_later HB.out (hcl 2 (by omega))
   simp at c1 c2
   have hcapi : (l.items.length : Int) ≤ cap := by omega
   have hEc := HE.out
   rw [drop_items l j hlt] at hEc
   have HEC := Lib.hid hEc
   have HY := Lib.hid hy
   have HSb := Lib.hid (nsized_at HS.out _ (List.getElem_mem hlt))
   obtain ⟨ya, yc, hys⟩ := nestD_slice D hy
   subst hys
   clear hcl hcs hrec hEc hy HE
   generalize (l.items[j]).1 = t at *
   generalize (l.items[j]).2.1 = nd at *
   generalize (l.items[j]).2.2 = b at *
   have hnil := isNil_len b
   generalize hm : b.items.length = m at *
   by_cases hz : m = 0
   ·
    subst hz
    have HNL := Lib.hid (show b.isNil = true by rw [hnil]; rfl)
    clear hnil
    by_cases h1 : a ≤ nd
    ·
     have e : r = true := by rw [← HEC.out, strangeP]; simp [HNL.out, h1]
     subst e
     go_wp2
     go_ret
     exact ⟨rfl, HB.out⟩
    ·
     have HN1 := Lib.hid (decide_eq_false h1)
     go_wp2_with fail
     refine (HSTR.out _ _ b a (nestD_below D HY.out HB.out) HSb.out).mono ?_
     rintro e w4 ⟨rfl, hb4⟩
     have HB4 := Lib.hid (HB.out.trans (hb4.mono HB.out.size))
     clear hb4
     obtain ⟨sb, hsb⟩ : ∃ x, strangeP b a = x := ⟨_, rfl⟩
     rw [hsb]
     have HSB := Lib.hid hsb
     clear hsb
     cases sb with
     | true =>
      have e : r = true := by rw [← HEC.out, strangeP]; simp [HSB.out]
      subst e
      go_wp2
      go_ret
      exact ⟨rfl, HB4.out⟩
     | false =>
      have HR3 := Lib.hid (show strangeP (l.drop (j + 1)) a = r by rw [← HEC.out, strangeP, HSB.out]; simp only [HNL.out, HN1.out, Bool.and_false, Bool.false_or, Bool.or_false])
      have hll := HL.out
      go_wp2
      go_roundw
      case rel => exact ⟨j + 1, hlt, by go_num, HB4.out, HR3.out⟩
      case measure => simp [intOf]; omega
   ·
    have hzi : ((m : Int) == 0) = false := by rw [beq_eq_false_iff_ne]; omega
    have HNL := Lib.hid (show b.isNil = false by rw [hnil, decide_eq_false hz])
    clear hnil
    go_wp2_with fail
    refine (HSTR.out _ _ b a (nestD_below D HY.out HB.out) HSb.out).mono ?_
    rintro e w4 ⟨rfl, hb4⟩
    have HB4 := Lib.hid (HB.out.trans (hb4.mono HB.out.size))
    clear hb4
    obtain ⟨sb, hsb⟩ : ∃ x, strangeP b a = x := ⟨_, rfl⟩
    rw [hsb]
    have HSB := Lib.hid hsb
    clear hsb
    cases sb with
    | true =>
     have e : r = true := by rw [← HEC.out, strangeP]; simp [HSB.out]
     subst e
     go_wp2
     go_ret
     exact ⟨rfl, HB4.out⟩
    | false =>
     have HR3 := Lib.hid (show strangeP (l.drop (j + 1)) a = r by rw [← HEC.out, strangeP, HSB.out]; simp only [HNL.out, Bool.false_and, Bool.false_or, Bool.or_false])
     have hll := HL.out
     go_wp2
     go_roundw
     case rel => exact ⟨j + 1, hlt, by go_num, HB4.out, HR3.out⟩
     case measure => simp [intOf]; omega
  ·
   obtain rfl : j = l.items.length := by omega
   have e := HE.out
   rw [drop_end, strangeP] at e
   subst e
   go_wp2
   go_ret
   exact ⟨rfl, HB.out⟩
theorem rstr_any : ∀ D, RStrOk D
 | 0 => rstr_zero
 | D + 1 => rstr_succ (rstr_any D)
def deepestP : Nest → Nat
 | .nil => 0
 | .cons t _ b r => max (deepestP b + if 1 < t then 1 else 0) (deepestP r)
theorem deepest_at : ∀ {l : Nest}, ∀ x ∈ l.items, deepestP x.2.2 ≤ deepestP l
 | .nil, x, hx => by simp [Nest.items] at hx
 | .cons _ _ _ _, x, hx => by
  simp only [Nest.items, List.mem_cons] at hx
  simp only [deepestP]
  rcases hx with rfl | hx
  ·
   simp only; omega
  ·
   have := deepest_at x hx; omega
def DeepOk (D : Nat) : Prop := ∀ (w : World) (v : Value) (l : Nest), HasNestD D w v l → NSized l → deepestP l ≤ 1000 → Calls Try.prog 51 #[v] w (Tells (.int .i64 (deepestP l : Nat)) w)
set_option maxRecDepth 100000 in
theorem deep_zero : DeepOk 0 := by
 intro w v l hv hs hd
 obtain ⟨rfl, ao, cap, rfl⟩ := hv
 clear hs hd
 go_enter Try.func51, Try.ntmps51
 go_wp2_with fail
 go_loopw [3, 4] (fun s i wr => i = .int .i64 0 ∧ s = .int .i64 0 ∧ wr = w) (fun _ _ _ => 0)
 case atStart => exact ⟨rfl, rfl, rfl⟩
 case round =>
  obtain ⟨rfl, rfl, rfl⟩ := hrel
  go_wp2
  go_ret
  exact ⟨rfl, Below.refl _ _⟩
/- the greater: $1 how deep it is now -/
set_option maxRecDepth 100000 in
set_option maxHeartbeats 1000000 in
theorem deep_succ {D : Nat} (hrec0 : DeepOk D) : DeepOk (D + 1) := by
 intro w v l hv hs hd
 have hv' : Recs w 3 (fun w x cs => ∃ y, cs = [.int .i64 x.1, .int .i64 x.2.1, y] ∧ HasNestD D w y x.2.2) v l.items := hv
 obtain ⟨ao, cap, rfl⟩ := hv'.slice
 obtain ⟨r, hr⟩ : ∃ r, deepestP l = r := ⟨_, rfl⟩
 have HDA := Lib.hid (fun x hx => Nat.le_trans (deepest_at (l := l) x hx) hd)
 rw [hr] at hd ⊢
 have HE := Lib.hid (show max 0 (deepestP (l.drop 0)) = r by rw [drop_zero, hr]; omega)
 have HV := Lib.hid hv'
 have HS := Lib.hid hs
 have HL := Lib.hid (nsized_len hs)
 have HREC := Lib.hid hrec0
 clear hv hv' hs hrec0 hr
 go_enter Try.func51, Try.ntmps51
 go_wp2_with fail
 go_loopw [3, 4] (fun s i wr => ∃ (j n : Nat), j ≤ l.items.length ∧ i = .int .i64 j ∧ s = .int .i64 n ∧ Below w.heap.size w wr ∧ max n (deepestP (l.drop j)) = r) (fun _ i _ => l.items.length - (intOf i).toNat)
 case atStart => exact ⟨0, 0, Nat.zero_le _, rfl, rfl, Below.refl _ _, HE.out⟩
 case round =>
  clear HE
  obtain ⟨j, n, hj, rfl, rfl, hb, hE⟩ := hrel
  have HB := Lib.hid hb
  clear hb
  by_cases hlt : j < l.items.length
  ·
   have hlti : (j : Int) < l.items.length := by omega
   obtain ⟨b0, off, rfl, hcap, hb0, hrec⟩ := HV.out.at (by omega)
   obtain ⟨cs, hcs, hPR, hcl⟩ := hrec j hlt
   obtain ⟨y, rfl, hy⟩ := hPR
   have a0 := hcl 0 (by omega)
   have c2 := cell_later HB.out (hcl 2 (by omega))
   simp at a0 c2
   have hcapi : (l.items.length : Int) ≤ cap := by omega
   rw [drop_items l j hlt] at hE
   have HY := Lib.hid hy
   have HSb := Lib.hid (nsized_at HS.out _ (List.getElem_mem hlt))
   have hdb := HDA.out _ (List.getElem_mem hlt)
   obtain ⟨ya, yc, hys⟩ := nestD_slice D hy
   subst hys
   clear hcl hcs hrec hy hcap
   generalize (l.items[j]).1 = t at *
   generalize (l.items[j]).2.1 = nd at *
   generalize (l.items[j]).2.2 = b at *
   have HA0 := Lib.hid a0
   rw [deepestP] at hE
   have hll := HL.out
   clear a0
   go_wp2_with fail
   refine (HREC.out _ _ b (nestD_below D HY.out HB.out) HSb.out hdb).mono ?_
   rintro e w4 ⟨rfl, hb4⟩
   have HB4 := Lib.hid (HB.out.trans (hb4.mono HB.out.size))
   have c0 := cell_later HB4.out HA0.out
   obtain ⟨k, hk⟩ : ∃ x, deepestP b = x := ⟨_, rfl⟩
   rw [hk] at hE hdb ⊢
   clear hb4 c2 hk
   by_cases h1 : 1 < t
   ·
    rw [if_pos h1] at hE
    have HEC := Lib.hid hE
    clear hE
    by_cases h6 : (n : Int) < (k + 1 : Nat)
    ·
     have HR3 := Lib.hid (show max (k + 1) (deepestP (l.drop (j + 1))) = r by rw [← HEC.out]; omega)
     go_wp2
     all_goals first
      | (exfalso; omega)
      | (refine ⟨⟨j + 1, k + 1, hlt, by go_num, by go_num, HB4.out, HR3.out⟩, ?_⟩; simp [intOf]; omega)
    ·
     have HR3 := Lib.hid (show max n (deepestP (l.drop (j + 1))) = r by rw [← HEC.out]; omega)
     go_wp2
     all_goals first
      | (exfalso; omega)
      | (refine ⟨⟨j + 1, n, hlt, by go_num, by go_num, HB4.out, HR3.out⟩, ?_⟩; simp [intOf]; omega)
   ·
    rw [if_neg h1, Nat.add_zero] at hE
    have HEC := Lib.hid hE
    clear hE
    by_cases h6 : (n : Int) < (k : Nat)
    ·
     have HR3 := Lib.hid (show max (k) (deepestP (l.drop (j + 1))) = r by rw [← HEC.out]; omega)
     go_wp2
     all_goals first
      | (exfalso; omega)
      | (refine ⟨⟨j + 1, k, hlt, by go_num, by go_num, HB4.out, HR3.out⟩, ?_⟩; simp [intOf]; omega)
    ·
     have HR3 := Lib.hid (show max n (deepestP (l.drop (j + 1))) = r by rw [← HEC.out]; omega)
     go_wp2
     all_goals first
      | (exfalso; omega)
      | (refine ⟨⟨j + 1, n, hlt, by go_num, by go_num, HB4.out, HR3.out⟩, ?_⟩; simp [intOf]; omega)
  ·
   obtain rfl : j = l.items.length := by omega
   rw [drop_end, deepestP, Nat.max_zero] at hE
   subst hE
   go_wp2
   go_ret
   exact ⟨rfl, HB.out⟩
theorem deep_any : ∀ D, DeepOk D
 | 0 => deep_zero
 | D + 1 => deep_succ (deep_any D)
end Go.Proofs.Ytbmbfifempkhgaa
