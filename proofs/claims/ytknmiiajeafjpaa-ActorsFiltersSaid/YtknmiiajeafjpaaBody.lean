/- An actor in memory: what it holds, and the calls that only look: Fired, State, Shape. -/
import Derived.Test.YtknmiiajeafjpaaDisp
import Derived.TacticsIn
import Derived.Test.YtknmiiajeafjpaaReck4
import Derived.Deep.QuietTactic
namespace Go.Proofs.Ytknmiiajeafjpaa
open Go.RowKit

/-- an actor at block b: tag t, parameters ps, what it keeps, how often it has fired. What turns has colour c (its kind's block), the rest colour d. -/
structure BodyAt (w : World) (o : Col) (c d b : Nat) (t : Int) (ps keep : List Int) (n : Int) (K : Nat) (vi vo vt vs : Value) : Prop where
  body : Blk w o d b 73 #[.iface (kP t) (.pointer (some ⟨K, 0, none⟩))]
  kind : Blk w o c K (kS t) (kcells t vi vo n (hd keep) (hd1 ps) vt vs)
  ins : Ints w o d vi (insP t ps)
  outs : Ints w o d vo (outsP t ps)
  taps : t = 1 → Ints w o d vt ps ∧ Ints w o d vs keep ∧ ps.length = keep.length + 1
  good : goodP t ps
  fitp : ∀ x ∈ ps, Fits x
  fitk : ∀ x ∈ keep, Fits x
  keep1 : t = 8 ∨ t = 10 → keep.length = 1
  keep2 : t ≠ 1 → t ≠ 8 → t ≠ 10 → keep = []
  fitn : Fits n
  ne : c ≠ d

theorem BodyAt.turn {w w' : World} {o o' : Col} {C : Nat → Prop} {c d b : Nat} {t : Int} {ps keep : List Int} {n : Int} {K : Nat} {vi vo vt vs : Value} (h : BodyAt w o c d b t ps keep n K vi vo vt vs) (T : Turn o o' C w w') (hc : ¬ C c) (hd : ¬ C d) : BodyAt w' o' c d b t ps keep n K vi vo vt vs :=
  ⟨h.body.turn T hd, h.kind.turn T hc, h.ins.turn T hd, h.outs.turn T hd, fun e => ⟨(h.taps e).1.turn T hd, (h.taps e).2.1.turn T hd, (h.taps e).2.2⟩, h.good, h.fitp, h.fitk, h.keep1, h.keep2, h.fitn, h.ne⟩

/-- which tags there are -/
theorem goodP_cases {t : Int} {ps : List Int} (h : goodP t ps) : t = 1 ∨ t = 2 ∨ t = 3 ∨ t = 4 ∨ t = 5 ∨ t = 6 ∨ t = 7 ∨ t = 8 ∨ t = 9 ∨ t = 10 ∨ t = 11 := by
  rcases h with h | h | h | h | h | h | h | h | h | h | h <;> omega

theorem count_any (w : World) (K : Nat) (n : Int) (h : w.cell? ⟨K, 2, none⟩ = some (.int .i64 n)) : Calls Try.prog 73 #[.pointer (some ⟨K, 0, none⟩)] w fun e w' => e = .returned (.int .i64 n) ∧ w = w' := by
  go_enter Try.func73, Try.ntmps73
  go_wp2
  go_ret
  exact ⟨rfl, rfl⟩

theorem Fired_any (w : World) (b K : Nat) (t n : Int) (ht : TagOk t) (hb : w.cell? ⟨b, 0, none⟩ = some (.iface (kP t) (.pointer (some ⟨K, 0, none⟩)))) (h : w.cell? ⟨K, 2, none⟩ = some (.int .i64 n)) : Calls Try.prog 15 #[.pointer (some ⟨b, 0, none⟩)] w fun e w' => e = .returned (.int .i64 n) ∧ w = w' := by
  have hm := disp_count ht K
  go_enter Try.func15, Try.ntmps15
  go_wp2_with fail
  refine (count_any _ K n (by assumption)).mono ?_
  rintro _ _ ⟨rfl, rfl⟩
  go_wp2
  go_ret
  exact ⟨rfl, rfl⟩

/-- the rates, as fresh copies -/
def Rated (w : World) (is os : List Int) (e : Ending) (w' : World) : Prop :=
  ∃ g1 c1 g2 c2, e = .returned (.tuple #[.slice (some ⟨g1, 0, none⟩) is.length c1, .slice (some ⟨g2, 0, none⟩) os.length c2]) ∧ w'.ownsRow w.heap.size 3 1 (.slice (some ⟨g1, 0, none⟩) is.length c1) is.length (ivs is) ∧ w'.ownsRow w.heap.size 3 1 (.slice (some ⟨g2, 0, none⟩) os.length c2) os.length (ivs os) ∧ g1 ≠ g2 ∧ Below w.heap.size w w'

set_option maxRecDepth 100000 in
set_option maxHeartbeats 1000000 in
theorem rates_any (w : World) (K : Nat) (vi vo : Value) (is os : List Int) (h0 : w.cell? ⟨K, 0, none⟩ = some vi) (h1 : w.cell? ⟨K, 1, none⟩ = some vo) (hi : Has w vi (ivs is)) (ho : Has w vo (ivs os)) (hni : is.length ≤ 1000000) (hno : os.length ≤ 1000000) : Calls Try.prog 76 #[.pointer (some ⟨K, 0, none⟩)] w (Rated w is os) := by
  obtain ⟨ai, ci, rfl⟩ := hi.slice
  obtain ⟨ao, co, rfl⟩ := ho.slice
  simp only [ivs_len] at hi ho h0 h1
  have HI := Lib.hid hi
  have HO := Lib.hid ho
  clear hi ho
  go_enter Try.func76, Try.ntmps76
  go_wp2
  refine wp_region_rest (fun w' => w'.cell? ⟨K, 0, none⟩ = some (.slice ai is.length ci) ∧ w'.cell? ⟨K, 1, none⟩ = some (.slice ao os.length co)) [0, 1, 2, 3, 5, 6, 7, 8] [4] 4 (by kernel_rfl) (by kernel_rfl) rfl ⟨h0, h1⟩ ?_
  intro Q' hQ'
  simp only [pickOps, List.flatMap_cons, List.flatMap_nil, List.drop_succ_cons, List.drop_zero, List.take_succ_cons, List.take_zero, List.cons_append, List.nil_append, List.append_nil]
  repeat (first
    | (refine wpReads_skip (by rfl) ?_; (try simp only [Act.put, List.setIfInBounds_toArray, List.set_cons_zero, List.set_cons_succ]))
    | (refine wpReads_cons ?_ (by rfl) (by rfl) ?_ ?_; rotate_left; (intro wz hz; (try dsimp only at hz); go_simp; try with_reducible rfl); (try simp only [Act.put, List.setIfInBounds_toArray, List.set_cons_zero, List.set_cons_succ]))
    | (refine wpReads_any ?_ (by rfl) ?_ ?_; rotate_left; (intro wz; go_simp; try with_reducible rfl); (try simp only [Act.put, List.setIfInBounds_toArray, List.set_cons_zero, List.set_cons_succ])))
  refine wpReads_nil ?_
  refine wpAnyT_one (i := 4) (by kernel_rfl) ?_
  simp only [pickOps, List.flatMap_cons, List.flatMap_nil, List.drop_succ_cons, List.drop_zero, List.take_succ_cons, List.take_zero, List.cons_append, List.nil_append, List.append_nil]
  have HI1 : Hid (Has w.drew (.slice ai is.length ci) (ivs is)) := Lib.hid (HI.out.drewN 1)
  go_wp2_with fail
  refine (clone_any _ _ _ _ is HI1.out (by omega)).mono ?_
  rintro e w1 ⟨g1, c1, rfl, ho1, hb1⟩
  have hb1 : Below w.heap.size w w1 := below_ld (n := 1) hb1
  have HO1 := Lib.hid ho1
  have HO2 := Lib.hid (HO.out.below hb1)
  clear ho1
  go_wp2
  refine ⟨fun _ hS => ⟨cell_later hb1 h0, cell_later hb1 h1⟩, ?_⟩
  refine wpAnyT_list (ks := [9, 10, 11]) (fun _ _ hx h => ⟨hx.cell h.1, hx.cell h.2⟩) (by kernel_rfl) ?_
  simp only [pickOps, List.flatMap_cons, List.flatMap_nil, List.drop_succ_cons, List.drop_zero, List.take_succ_cons, List.take_zero, List.cons_append, List.nil_append, List.append_nil]
  go_wp2_with fail
  refine (clone_any _ _ _ _ os HO2.out (by omega)).mono ?_
  rintro e w2 ⟨g2, c2, rfl, ho2, hb2⟩
  have HOO2 := Lib.hid ho2
  have HB2 := Lib.hid hb2
  clear ho2 hb2
  go_wp2
  go_ret2
  refine ⟨g1, c1, g2, c2, rfl, owns_kept HO1.out (Mods.of_below HB2.out (fun _ => False)) (fun _ _ h => h), owns_base HOO2.out (fun k hk => ?_), ?_, hb1.trans (HB2.out.mono hb1.size)⟩
  · have := (HOO2.out.lt k hk).1
    have := hb1.size
    omega
  · rintro rfl
    have h1 := (HO1.out.lt g1 rfl).2
    have h2 := (HOO2.out.lt g1 rfl).1
    omega

theorem ckept_any (w : World) (v : Value) : Calls Try.prog 83 #[v] w fun e w' => e = .returned (.slice none 0 0) ∧ w = w' := by
  go_enter Try.func83, Try.ntmps83
  go_wp2
  go_ret
  exact ⟨rfl, rfl⟩

theorem fkept_any (w : World) (K : Nat) (vs : Value) (l : List Int) (h0 : w.cell? ⟨K, 4, none⟩ = some vs) (hv : Has w vs (ivs l)) (hn : l.length ≤ 1000000) : Calls Try.prog 75 #[.pointer (some ⟨K, 0, none⟩)] w (FreshCopy w l) := by
  obtain ⟨ai, ci, rfl⟩ := hv.slice
  simp only [ivs_len] at hv h0
  have HI := Lib.hid hv
  clear hv
  go_enter Try.func75, Try.ntmps75
  go_wp2_with fail
  refine (clone_any _ _ _ _ l HI.out (by omega)).mono ?_
  rintro e w1 ⟨g1, c1, rfl, ho1, hb1⟩
  have HO := Lib.hid ho1
  have HB := Lib.hid hb1
  clear ho1 hb1
  go_wp2
  go_ret
  exact ⟨g1, c1, rfl, HO.out, HB.out⟩

theorem okept_any (w : World) (K : Nat) (x : Int) (h0 : w.cell? ⟨K, 3, none⟩ = some (.int .i64 x)) : Calls Try.prog 92 #[.pointer (some ⟨K, 0, none⟩)] w (FreshCopy w [x]) := by
  go_enter Try.func92, Try.ntmps92
  go_wp2
  go_ret
  refine ⟨_, _, rfl, owns_lit w [x] (by simp), (Below.refl _ _).alloc (Nat.le_refl _) _⟩

theorem cfired_any (w : World) (K : Nat) (n : Int) (h : w.cell? ⟨K, 2, none⟩ = some (.int .i64 n)) (hf : w.frozen? ⟨K, 2, none⟩ = false) (hn : Fits (n + 1)) : Calls Try.prog 74 #[.pointer (some ⟨K, 0, none⟩)] w fun e w' => e = .returned (.tuple #[]) ∧ w' = w.setCell ⟨K, 2, none⟩ (.int .i64 (n + 1)) := by
  have hw : IntKind.i64.wrap (n + 1) = n + 1 := IntWalk.i64_in _ hn
  go_enter Try.func74, Try.ntmps74
  go_wp2
  go_end0
  exact ⟨rfl, rfl⟩
end Go.Proofs.Ytknmiiajeafjpaa
