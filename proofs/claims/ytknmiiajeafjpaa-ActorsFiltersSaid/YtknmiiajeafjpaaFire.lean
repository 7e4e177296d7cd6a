/- An actor at work: Shape, State, reckon by tag. -/
import Derived.Test.YtknmiiajeafjpaaBody
namespace Go.Proofs.Ytknmiiajeafjpaa
open Go.RowKit

theorem BodyAt.tag {w : World} {o : Col} {c d b : Nat} {t : Int} {ps keep : List Int} {n : Int} {K : Nat} {vi vo vt vs : Value} (h : BodyAt w o c d b t ps keep n K vi vo vt vs) : TagOk t := goodP_cases h.good

theorem kcells_get (t : Int) (vi vo : Value) (n x b : Int) (vt vs : Value) (ht : TagOk t) : (kcells t vi vo n x b vt vs)[0]? = some vi ∧ (kcells t vi vo n x b vt vs)[1]? = some vo ∧ (kcells t vi vo n x b vt vs)[2]? = some (.int .i64 n) := by
  rcases ht with rfl | rfl | rfl | rfl | rfl | rfl | rfl | rfl | rfl | rfl | rfl <;> exact ⟨rfl, rfl, rfl⟩

theorem kcells_next (t : Int) (vi vo : Value) (n m x b : Int) (vt vs : Value) (ht : TagOk t) : (kcells t vi vo n x b vt vs).setIfInBounds 2 (.int .i64 m) = kcells t vi vo m x b vt vs := by
  rcases ht with rfl | rfl | rfl | rfl | rfl | rfl | rfl | rfl | rfl | rfl | rfl <;> rfl

theorem rates_len {t : Int} {ps : List Int} (h : goodP t ps) : (insP t ps).length ≤ 64 ∧ (outsP t ps).length ≤ 64 := by
  unfold goodP pairP oneP at h
  unfold insP outsP
  constructor <;> (repeat' split) <;> simp <;> omega

theorem Fired_body {w : World} {o : Col} {c d b : Nat} {t : Int} {ps keep : List Int} {n : Int} {K : Nat} {vi vo vt vs : Value} (h : BodyAt w o c d b t ps keep n K vi vo vt vs) : Calls Try.prog 15 #[.pointer (some ⟨b, 0, none⟩)] w fun e w' => e = .returned (.int .i64 n) ∧ w = w' :=
  Fired_any w b K t n h.tag (h.body.cell 0 _ rfl) (h.kind.cell 2 _ (kcells_get t vi vo n _ _ vt vs h.tag).2.2)

theorem Shape_body {w : World} {o : Col} {c d b : Nat} {t : Int} {ps keep : List Int} {n : Int} {K : Nat} {vi vo vt vs : Value} (h : BodyAt w o c d b t ps keep n K vi vo vt vs) : Calls Try.prog 30 #[.pointer (some ⟨b, 0, none⟩)] w (Rated w (insP t ps) (outsP t ps)) := by
  have hb := h.body.cell 0 _ rfl
  have h0 := h.kind.cell 0 _ (kcells_get t vi vo n _ _ vt vs h.tag).1
  have h1 := h.kind.cell 1 _ (kcells_get t vi vo n _ _ vt vs h.tag).2.1
  have hm := disp_rates h.tag K
  have hl := rates_len h.good
  have HI := Lib.hid h.ins.has
  have HO := Lib.hid h.outs.has
  clear h
  go_enter Try.func30, Try.ntmps30
  go_wp2_with fail
  refine (rates_any _ K _ _ _ _ h0 h1 HI.out HO.out (by omega) (by omega)).mono ?_
  rintro e w1 ⟨g1, c1, g2, c2, rfl, r1, r2, r3, r4⟩
  have R1 := Lib.hid r1
  have R2 := Lib.hid r2
  clear r1 r2 hm
  go_wp2
  go_ret2
  exact ⟨g1, c1, g2, c2, rfl, R1.out, R2.out, r3, r4⟩

/-- what is kept, as a fresh copy -/
def Stated (w : World) (keep : List Int) (e : Ending) (w' : World) : Prop :=
  ∃ v, e = .returned v ∧ w'.ownsRow w.heap.size 3 1 v keep.length (ivs keep) ∧ Below w.heap.size w w'

theorem stated_fresh {w w1 : World} {l : List Int} {e : Ending} (h : FreshCopy w l e w1) : Stated w l e w1 := by
  obtain ⟨g, cp, he, h1, h2⟩ := h
  exact ⟨_, he, h1, h2⟩

theorem State_1 (w : World) (b K f : Nat) (t : Int) (keep : List Int) (hb : w.cell? ⟨b, 0, none⟩ = some (.iface (kP t) (.pointer (some ⟨K, 0, none⟩)))) (hm : ∀ w, (method 243 (kP t) (.pointer (some ⟨K, 0, none⟩)) "pianola/actors.kept").run Try.prog w = .ok (f, .pointer (some ⟨K, 0, none⟩)) w) (hcf : ∀ (args : Array Value) (w : World), (callFunc f args).run Try.prog w = .ok (.enter f args) w) (hc : Calls Try.prog f #[.pointer (some ⟨K, 0, none⟩)] w (Stated w keep)) :
    Calls Try.prog 24 #[.pointer (some ⟨b, 0, none⟩)] w (Stated w keep) := by
  go_enter Try.func24, Try.ntmps24
  go_wp2_with fail
  refine hc.mono ?_
  rintro e w1 ⟨v, rfl, r1, r2⟩
  have R1 := Lib.hid r1
  have R2 := Lib.hid r2
  clear r1 r2 hm hcf hc
  go_wp2
  go_ret
  exact ⟨v, rfl, R1.out, R2.out⟩

theorem State_body {w : World} {o : Col} {c d b : Nat} {t : Int} {ps keep : List Int} {n : Int} {K : Nat} {vi vo vt vs : Value} (h : BodyAt w o c d b t ps keep n K vi vo vt vs) : Calls Try.prog 24 #[.pointer (some ⟨b, 0, none⟩)] w (Stated w keep) := by
  have ht := h.tag
  refine State_1 w b K (kK t) t keep (h.body.cell 0 _ rfl) (disp_kept ht K) (fun args w => ?_) ?_
  · rcases ht with rfl | rfl | rfl | rfl | rfl | rfl | rfl | rfl | rfl | rfl | rfl <;> first | exact Try.call75 _ _ | exact Try.call92 _ _ | exact Try.call83 _ _
  by_cases h1 : t = 1
  · subst h1
    obtain ⟨h3, h4, h5⟩ := h.taps rfl
    have hg : 1 ≤ ps.length ∧ ps.length ≤ 16 := by have := h.good; unfold goodP at this; omega
    exact (fkept_any w K vs keep (h.kind.cell 4 _ rfl) h4.has (by omega)).mono fun e w' h => stated_fresh h
  by_cases h8 : t = 8 ∨ t = 10
  · have hk : keep = [hd keep] := by
      have := h.keep1 h8
      match keep, this with
      | [x], _ => rfl
    have h3 : w.cell? ⟨K, 3, none⟩ = some (.int .i64 (hd keep)) := h.kind.cell 3 _ (by rcases h8 with rfl | rfl <;> rfl)
    rw [show kK t = 92 by rcases h8 with rfl | rfl <;> rfl]
    rw [hk]
    exact (okept_any w K (hd keep) h3).mono fun e w' h => stated_fresh h
  · have hk := h.keep2 h1 (fun e => h8 (.inl e)) (fun e => h8 (.inr e))
    subst hk
    rw [show kK t = 83 by unfold kK; rw [if_neg h1, if_neg (fun e => h8 (.inl e)), if_neg (fun e => h8 (.inr e))]]
    refine (ckept_any w _).mono ?_
    rintro e w' ⟨rfl, rfl⟩
    exact ⟨_, rfl, World.ownsRow_nil _ _ _ _, Below.refl _ _⟩
end Go.Proofs.Ytknmiiajeafjpaa
