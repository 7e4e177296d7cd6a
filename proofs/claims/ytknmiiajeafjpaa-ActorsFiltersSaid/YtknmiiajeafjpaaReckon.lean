/- What a firing reckons, by tag. -/
import Derived.Test.YtknmiiajeafjpaaFire
namespace Go.Proofs.Ytknmiiajeafjpaa
open Go.RowKit

/-- what a firing gives, and what is kept behind it -/
def reckP (t : Int) (ps keep : List Int) (xss : List (List Int)) : Option (List (List Int) × List Int) :=
  if t = 1 then (dotP 0 ps (hd (xss[0]?.getD []) :: keep)).map fun y => ([[y]], (hd (xss[0]?.getD []) :: keep).take keep.length)
  else if t = 2 then some ([hd (xss[0]?.getD []) :: List.replicate ((hd ps).toNat - 1) 0], keep)
  else if t = 3 then some ([[hd (xss[0]?.getD [])]], keep)
  else if t = 4 then some ([weaveP xss (hd1 ps).toNat], keep)
  else if t = 5 then some (partP (hd ps).toNat (hd1 ps).toNat (xss[0]?.getD []), keep)
  else if t = 6 then (sumP 0 (firsts xss)).map fun y => ([[y]], keep)
  else if t = 7 then (quotP (hd (xss[0]?.getD [])) (hd (xss[1]?.getD []))).map fun y => ([[y]], keep)
  else if t = 8 then (if Fits (hd keep + hd (xss[0]?.getD [])) then some ([[hd keep + hd (xss[0]?.getD [])]], [hd keep + hd (xss[0]?.getD [])]) else none)
  else if t = 9 then some (List.replicate (hd ps).toNat [hd (xss[0]?.getD [])], keep)
  else if t = 10 then (if Fits (hd keep + hd1 ps) then some ([[hd keep]], [hd keep + hd1 ps]) else none)
  else some ([], keep)

/-- what 'reckon' answers -/
def Reckoned (w : World) (o : Col) (c d E b : Nat) (t : Int) (ps : List Int) (n : Int) (K : Nat) (vi vo vt : Value) (r : Option (List (List Int) × List Int)) (e : Ending) (w' : World) : Prop :=
  match r with
  | some (outs, keep') => ∃ ov vs' o', e = .returned (.tuple #[ov, .bool true]) ∧ Turn o o' (fun x => x = c) w w' ∧ BodyAt w' o' c d b t ps keep' n K vi vo vt vs' ∧ Outs w' o' E ov outs
  | none => ReckNo w e w'

theorem reckoned_some {w : World} {o : Col} {c d E b : Nat} {t : Int} {ps keep keep' : List Int} {n : Int} {K : Nat} {vi vo vt vs : Value} {outs : List (List Int)} {e : Ending} {w' : World} (h : BodyAt w o c d b t ps keep n K vi vo vt vs) (h1 : t ≠ 1)
    (hk1 : t = 8 ∨ t = 10 → keep'.length = 1) (hk2 : t ≠ 1 → t ≠ 8 → t ≠ 10 → keep' = []) (hkf : ∀ x ∈ keep', Fits x)
    (hr : Reck w K (kS t) (kcells t vi vo n (hd keep') (hd1 ps) vt vs) outs e w') : Reckoned w o c d E b t ps n K vi vo vt (some (outs, keep')) e w' := by
  obtain ⟨ov, he, hm, hK, hO⟩ := hr
  have hKc : o K = c := h.kind.2
  have hKl := h.kind.lt
  have T : Turn o (ext o w.heap.size E) (fun x => x = c) w w' := Turn.of_mods o E hm (fun k _ hk => by rw [hk]; exact hKc)
  have hd : ¬ d = c := fun e => h.ne e.symm
  refine ⟨ov, vs, _, he, T, ⟨h.body.turn T hd, ⟨hK, by rw [ext_old hKl]; exact hKc⟩, h.ins.turn T hd, h.outs.turn T hd, fun e => absurd e h1, h.good, h.fitp, hkf, hk1, hk2, h.fitn, h.ne⟩, ?_⟩
  refine hO.recol fun k hk hc => ?_
  exact ext_new (canon_is hc).1

theorem reckoned_filter {w : World} {o : Col} {c d E b : Nat} {ps keep : List Int} {n : Int} {K : Nat} {vi vo vt vs : Value} {y x : Int} {e : Ending} {w' : World} (h : BodyAt w o c d b 1 ps keep n K vi vo vt vs) (hx : Fits x)
    (hr : ReckF w K vi vo (.int .i64 n) vt ((x :: keep).take keep.length) y e w') : Reckoned w o c d E b 1 ps n K vi vo vt (some ([[y]], (x :: keep).take keep.length)) e w' := by
  obtain ⟨ov, R, cp, he, hm, hK, hS, hR1, hR2, hO⟩ := hr
  have hKc : o K = c := h.kind.2
  have hKl := h.kind.lt
  have hd : ¬ d = c := fun e => h.ne e.symm
  have T : Turn o (fun k => if k < w.heap.size then o k else if k = R then d else E) (fun x => x = c) w w' := ⟨hm.mono (fun k _ hk => by rw [hk]; exact hKc), fun k hk => by simp [hk]⟩
  have hl : ((x :: keep).take keep.length).length = keep.length := by rw [List.length_take, List.length_cons]; omega
  have htaps := h.taps rfl
  refine ⟨ov, _, _, he, T, ⟨h.body.turn T hd, ⟨hK, by simp [hKl, hKc]⟩, h.ins.turn T hd, h.outs.turn T hd, fun _ => ⟨htaps.1.turn T hd, ?_, by rw [hl]; exact htaps.2.2⟩, h.good, h.fitp, fun z hz => ?_, fun hh => by omega, fun hh => absurd rfl hh, h.fitn, h.ne⟩, ?_⟩
  · rcases hS with hS | ⟨hp, b', off, cap, e, hle, hb, _, hcl⟩
    · exact .inl hS
    · refine .inr ⟨hp, b', off, cap, e, hle, hb, ?_, hcl⟩
      obtain ⟨rfl, _⟩ : R = b' ∧ True := by
        injection e with e1
        injection e1 with e1
        injection e1 with e1
        exact ⟨e1, trivial⟩
      simp [Nat.not_lt.2 hR1]
  · rcases List.mem_cons.1 (List.mem_of_mem_take hz) with rfl | hz
    · exact hx
    · exact h.fitk z hz
  · refine hO.recol fun k hk hc => ?_
    have := canon_is hc
    simp [Nat.not_lt.2 this.1, this.2]
end Go.Proofs.Ytknmiiajeafjpaa
