/- What a firing reckons: every tag by its contract. -/
import Derived.Test.YtknmiiajeafjpaaReckon
namespace Go.Proofs.Ytknmiiajeafjpaa
open Go.RowKit

theorem one_row {xss : List (List Int)} {n : Int} (h : xss.map (fun l => (l.length : Int)) = [n]) : ∃ l, xss = [l] ∧ (l.length : Int) = n := by
  match xss, h with
  | [l], h => exact ⟨l, rfl, by simpa using h⟩
theorem one_num {l : List Int} (h : (l.length : Int) = 1) : l = [hd l] := by
  match l, h with
  | [x], _ => rfl

theorem two_rows {xss : List (List Int)} (h : xss.map (fun l => (l.length : Int)) = [1, 1]) : ∃ x y, xss = [[x], [y]] := by
  match xss with
  | [] => simp at h
  | [l] => simp at h
  | [l, k] =>
    simp only [List.map_cons, List.map_nil, List.cons.injEq, and_true] at h
    exact ⟨hd l, hd k, by rw [← one_num h.1, ← one_num h.2]⟩
  | _ :: _ :: _ :: _ => simp at h

theorem reck_any {w : World} {o : Col} {c d b : Nat} {t : Int} {ps keep : List Int} {n : Int} {K : Nat} {vi vo vt vs insv : Value} {xss : List (List Int)} (E : Nat) (h : BodyAt w o c d b t ps keep n K vi vo vt vs) (hins : LL w insv xss) (hlen : xss.map (fun l => (l.length : Int)) = insP t ps) (hf : ∀ l ∈ xss, ∀ x ∈ l, Fits x) :
    Calls Try.prog (kF t) #[.pointer (some ⟨K, 0, none⟩), insv] w (Reckoned w o c d E b t ps n K vi vo vt (reckP t ps keep xss)) := by
  have hg := h.good
  have hK := h.kind.1
  rcases h.tag with rfl | rfl | rfl | rfl | rfl | rfl | rfl | rfl | rfl | rfl | rfl
  · obtain ⟨l, rfl, hl⟩ := one_row hlen
    obtain ⟨x, rfl⟩ : ∃ x, l = [x] := ⟨_, one_num hl⟩
    have hx : Fits x := hf [x] (by simp) x (by simp)
    obtain ⟨t1, t2, t3⟩ := h.taps rfl
    have hg1 : 1 ≤ ps.length ∧ ps.length ≤ 16 := by unfold goodP at hg; omega
    refine (filter_reck w K vi vo (.int .i64 n) vt vs insv x ps keep t3 hg1.2 hx h.fitp h.fitk hK t1.has t2.has hins).mono fun e w' hr => ?_
    show Reckoned w o c d E b 1 ps n K vi vo vt ((dotP 0 ps (x :: keep)).map fun y => ([[y]], (x :: keep).take keep.length)) e w'
    cases hD : dotP 0 ps (x :: keep) with
    | none => rw [hD] at hr; exact hr
    | some y => rw [hD] at hr; exact reckoned_filter h hx hr
  · have h1 : oneP ps 64 := by simpa [goodP] using hg
    obtain ⟨l, rfl, hl⟩ := one_row hlen
    obtain ⟨x, rfl⟩ : ∃ x, l = [x] := ⟨_, one_num hl⟩
    obtain ⟨u, hu⟩ : ∃ u : Nat, hd ps = u := ⟨(hd ps).toNat, by have := h1.2; omega⟩
    have hu2 := h1.2
    rw [hu] at hu2
    have ho : Has w vo (ivs [(u : Int)]) := by have := h.outs.has; rw [← hu]; exact this
    refine (up_reck w K vi vo (.int .i64 n) insv x u (by omega) (by omega) hK ho hins).mono fun e w' hr => ?_
    show Reckoned w o c d E b 2 ps n K vi vo vt (some ([x :: List.replicate ((hd ps).toNat - 1) 0], keep)) e w'
    rw [hu, Int.toNat_natCast]
    exact reckoned_some h (by decide) h.keep1 h.keep2 h.fitk hr
  · have h1 : oneP ps 64 := by simpa [goodP] using hg
    obtain ⟨l, rfl, hl⟩ := one_row hlen
    refine (down_reck w K insv _ l (by have := h1.2; omega) hK hins).mono fun e w' hr => ?_
    exact reckoned_some h (by decide) h.keep1 h.keep2 h.fitk hr
  · have h1 : pairP ps := by simpa [goodP] using hg
    obtain ⟨h2, h3, h4, h5⟩ := h1
    obtain ⟨u, hu⟩ : ∃ u : Nat, hd ps = u := ⟨(hd ps).toNat, by omega⟩
    obtain ⟨m, hm⟩ : ∃ u : Nat, hd1 ps = u := ⟨(hd1 ps).toNat, by omega⟩
    have hi : Has w vi (ivs (List.replicate u (m : Int))) := by have := h.ins.has; simpa [insP, hu, hm] using this
    have ho : Has w vo (ivs [(u : Int) * m]) := by have := h.outs.has; simpa [outsP, hu, hm] using this
    have hlen' : xss.map (fun l => (l.length : Int)) = List.replicate u (m : Int) := by rw [hlen]; simp [insP, hu, hm]
    have hxl : xss.length = u := by have := congrArg List.length hlen'; simpa using this
    have hall : ∀ l ∈ xss, l.length = m := fun l hl => by
      have : (l.length : Int) ∈ xss.map (fun l => (l.length : Int)) := List.mem_map.2 ⟨l, hl, rfl⟩
      rw [hlen'] at this
      have := (List.mem_replicate.1 this).2
      omega
    refine (weave_reck w K vi vo (.int .i64 n) insv u m xss (by omega) (by omega) (by omega) hxl hall hK hi ho hins).mono fun e w' hr => ?_
    show Reckoned w o c d E b 4 ps n K vi vo vt (some ([weaveP xss (hd1 ps).toNat], keep)) e w'
    rw [hm, Int.toNat_natCast]
    exact reckoned_some h (by decide) h.keep1 h.keep2 h.fitk hr
  · have h1 : pairP ps := by simpa [goodP] using hg
    obtain ⟨h2, h3, h4, h5⟩ := h1
    obtain ⟨u, hu⟩ : ∃ u : Nat, hd ps = u := ⟨(hd ps).toNat, by omega⟩
    obtain ⟨m, hm⟩ : ∃ u : Nat, hd1 ps = u := ⟨(hd1 ps).toNat, by omega⟩
    obtain ⟨l, rfl, hl⟩ := one_row hlen
    have ho : Has w vo (ivs (List.replicate u (m : Int))) := by have := h.outs.has; simpa [outsP, hu, hm] using this
    refine (unw_reck w K vi vo (.int .i64 n) insv u m l _ (by simp) (by omega) (by omega) (by omega) (by rw [hu, hm] at hl; exact_mod_cast hl) hK ho hins).mono fun e w' hr => ?_
    show Reckoned w o c d E b 5 ps n K vi vo vt (some (partP (hd ps).toNat (hd1 ps).toNat l, keep)) e w'
    rw [hu, hm, Int.toNat_natCast, Int.toNat_natCast]
    exact reckoned_some h (by decide) h.keep1 h.keep2 h.fitk hr
  · have h1 : oneP ps 16 := by simpa [goodP] using hg
    have hlen' : xss.map (fun l => (l.length : Int)) = List.replicate (hd ps).toNat 1 := hlen
    have hxl : xss.length = (hd ps).toNat := by have := congrArg List.length hlen'; simpa using this
    have hall : ∀ l ∈ xss, l.length = 1 := fun l hl => by
      have : (l.length : Int) ∈ xss.map (fun l => (l.length : Int)) := List.mem_map.2 ⟨l, hl, rfl⟩
      rw [hlen'] at this
      have := (List.mem_replicate.1 this).2
      omega
    refine (add_reck w K insv _ xss (by have := h1.2; omega) (fun l hl => by rw [hall l hl]; omega) (fun x hx => ?_) hK hins).mono fun e w' hr => ?_
    · obtain ⟨l, hl, rfl⟩ := List.mem_map.1 hx
      have h0 := hall l hl
      refine hf l hl _ ?_
      rw [List.getElem?_eq_getElem (by omega), Option.getD_some]
      exact List.getElem_mem _
    show Reckoned w o c d E b 6 ps n K vi vo vt ((sumP 0 (firsts xss)).map fun y => ([[y]], keep)) e w'
    cases hS : sumP 0 (firsts xss) with
    | none => rw [hS] at hr; exact hr
    | some y => rw [hS] at hr; exact reckoned_some h (by decide) h.keep1 h.keep2 h.fitk hr
  · obtain ⟨x, y, rfl⟩ := two_rows hlen
    refine (quot_reck w K insv _ x y (hf [x] (by simp) x (by simp)) (hf [y] (by simp) y (by simp)) hK hins).mono fun e w' hr => ?_
    show Reckoned w o c d E b 7 ps n K vi vo vt ((quotP x y).map fun z => ([[z]], keep)) e w'
    cases hS : quotP x y with
    | none => rw [hS] at hr; exact hr
    | some z => rw [hS] at hr; exact reckoned_some h (by decide) h.keep1 h.keep2 h.fitk hr
  · obtain ⟨l, rfl, hl⟩ := one_row hlen
    obtain ⟨x, rfl⟩ : ∃ x, l = [x] := ⟨_, one_num hl⟩
    have hk : keep = [hd keep] := one_num (by have := h.keep1 (.inl rfl); omega)
    have hfk : Fits (hd keep) := h.fitk _ (by rw [hk]; exact List.mem_cons_self)
    refine (sum_reck w K vi vo (.int .i64 n) insv (hd keep) x hfk (hf [x] (by simp) x (by simp)) hK hins).mono fun e w' hr => ?_
    show Reckoned w o c d E b 8 ps n K vi vo vt (if Fits (hd keep + x) then some ([[hd keep + x]], [hd keep + x]) else none) e w'
    by_cases hS : Fits (hd keep + x)
    · rw [if_pos hS] at hr ⊢; exact reckoned_some h (by decide) (fun _ => rfl) (fun _ h8 _ => absurd rfl h8) (fun z hz => by rw [List.mem_singleton.1 hz]; exact hS) hr
    · rw [if_neg hS] at hr ⊢; exact hr
  · have h1 : oneP ps 16 := by simpa [goodP] using hg
    obtain ⟨l, rfl, hl⟩ := one_row hlen
    obtain ⟨x, rfl⟩ : ∃ x, l = [x] := ⟨_, one_num hl⟩
    refine (copy_reck w K vi vo (.int .i64 n) insv x (hd ps).toNat _ (by simp [outsP]) (by have := h1.2; omega) hK h.outs.has hins).mono fun e w' hr => ?_
    exact reckoned_some h (by decide) h.keep1 h.keep2 h.fitk hr
  · have h2 : ps.length = 2 := by unfold goodP at hg; omega
    have hfp : Fits (hd1 ps) := h.fitp _ (by unfold hd1; rw [List.getElem?_eq_getElem (by omega), Option.getD_some]; exact List.getElem_mem _)
    have hk : keep = [hd keep] := one_num (by have := h.keep1 (.inr rfl); omega)
    have hfk : Fits (hd keep) := h.fitk _ (by rw [hk]; exact List.mem_cons_self)
    refine (tick_reck w K vi vo (.int .i64 n) insv (hd keep) (hd1 ps) hfk hfp hK).mono fun e w' hr => ?_
    show Reckoned w o c d E b 10 ps n K vi vo vt (if Fits (hd keep + hd1 ps) then some ([[hd keep]], [hd keep + hd1 ps]) else none) e w'
    by_cases hS : Fits (hd keep + hd1 ps)
    · rw [if_pos hS] at hr ⊢; exact reckoned_some h (by decide) (fun _ => rfl) (fun _ _ h8 => absurd rfl h8) (fun z hz => by rw [List.mem_singleton.1 hz]; exact hS) hr
    · rw [if_neg hS] at hr ⊢; exact hr
  · refine (drop_reck w K insv _ hK).mono fun e w' hr => ?_
    exact reckoned_some h (by decide) h.keep1 h.keep2 h.fitk hr
end Go.Proofs.Ytknmiiajeafjpaa
