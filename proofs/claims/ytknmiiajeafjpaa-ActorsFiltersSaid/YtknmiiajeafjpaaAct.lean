/- An actor, its kind's block forgotten. -/
import Derived.Test.YtknmiiajeafjpaaNil
namespace Go.Proofs.Ytknmiiajeafjpaa
open Go.RowKit

def Act (w : World) (o : Col) (c d b : Nat) (t : Int) (ps keep : List Int) (n : Int) : Prop := ∃ K vi vo vt vs, BodyAt w o c d b t ps keep n K vi vo vt vs

theorem Act.turn {w w' : World} {o o' : Col} {C : Nat → Prop} {c d b : Nat} {t : Int} {ps keep : List Int} {n : Int} (h : Act w o c d b t ps keep n) (T : Turn o o' C w w') (hc : ¬ C c) (hd : ¬ C d) : Act w' o' c d b t ps keep n := by
  obtain ⟨K, vi, vo, vt, vs, h⟩ := h
  exact ⟨K, vi, vo, vt, vs, h.turn T hc hd⟩
theorem Act.below {w w' : World} {o : Col} {c d b : Nat} {t : Int} {ps keep : List Int} {n : Int} (h : Act w o c d b t ps keep n) (x : Nat) (hb : Below w.heap.size w w') : Act w' (ext o w.heap.size x) c d b t ps keep n := h.turn (Turn.of_below o x hb) (fun h => h) (fun h => h)
theorem Act.drewN {w : World} {o : Col} {c d b : Nat} {t : Int} {ps keep : List Int} {n : Int} (h : Act w o c d b t ps keep n) (m : Nat) : Act (w.drewN m) o c d b t ps keep n := h.turn (Turn.of_quiet o ⟨m, rfl⟩) (fun h => h) (fun h => h)

/-- what 'New' answers -/
def NewAct (w : World) (o : Col) (c d : Nat) (t : Int) (ps : List Int) (e : Ending) (w' : World) : Prop :=
  ∃ b o', e = .returned (.tuple #[.pointer (some ⟨b, 0, none⟩), .int .i64 0]) ∧ Turn o o' (fun _ => False) w w' ∧ Act w' o' c d b t ps (keep0 t ps) 0
theorem New_act {o1 : Col} {c1 : Nat} {w : World} {t : Int} {ao : Option Addr} {n cap : Nat} {ps : List Int} (o : Col) (c d : Nat) (hcd : c ≠ d) (hg : goodP t ps) (hf : ∀ x ∈ ps, Fits x) (h : Ints w o1 c1 (.slice ao n cap) ps) : Calls Try.prog 12 #[.int .u8 t, .slice ao n cap] w (NewAct w o c d t ps) := by
  refine (New_ok o c d hcd hg hf h).mono ?_
  rintro e w' ⟨b, K, vi, vo, vt, vs, o', h1, h2, h3⟩
  exact ⟨b, o', h1, h2, K, vi, vo, vt, vs, h3⟩

/-- what 'Fire' answers, where it is reckoned -/
def FireAct (w : World) (o : Col) (c d E b : Nat) (t : Int) (ps : List Int) (n : Int) (outs : List (List Int)) (keep' : List Int) (e : Ending) (w' : World) : Prop :=
  ∃ ov o', e = .returned (.tuple #[ov, .int .i64 0]) ∧ Turn o o' (fun x => x = c) w w' ∧ Act w' o' c d b t ps keep' (n + 1) ∧ Outs w' o' E ov outs
/-- .. and where it is not -/
def FireNo (x : Int) (w : World) (e : Ending) (w' : World) : Prop := e = .returned (.tuple #[.slice none 0 0, .int .i64 x]) ∧ Below w.heap.size w w'

theorem Fire_act {w : World} {o : Col} {c d b : Nat} {t : Int} {ps keep keep' : List Int} {n : Int} {insv : Value} {xss outs : List (List Int)} (E : Nat) (hE : E ≠ c) (h : Act w o c d b t ps keep n) (hins : LL w insv xss) (hf : ∀ l ∈ xss, ∀ x ∈ l, Fits x) (hn1 : Fits (n + 1))
    (hfit : xss.map (fun l => (l.length : Int)) = insP t ps) (hr : reckP t ps keep xss = some (outs, keep')) : Calls Try.prog 14 #[.pointer (some ⟨b, 0, none⟩), insv] w (FireAct w o c d E b t ps n outs keep') := by
  obtain ⟨K, vi, vo, vt, vs, h⟩ := h
  refine (Fire_fit E hE h hins hf hn1 hfit hr).mono ?_
  rintro e w' ⟨ov, vs', o', h1, h2, h3, h4⟩
  exact ⟨ov, o', h1, h2, ⟨K, vi, vo, vt, vs', h3⟩, h4⟩
theorem Fire_fault {w : World} {o : Col} {c d b : Nat} {t : Int} {ps keep : List Int} {n : Int} {insv : Value} {xss : List (List Int)} (h : Act w o c d b t ps keep n) (hins : LL w insv xss) (hf : ∀ l ∈ xss, ∀ x ∈ l, Fits x) (hn1 : Fits (n + 1))
    (hfit : xss.map (fun l => (l.length : Int)) = insP t ps) (hr : reckP t ps keep xss = none) : Calls Try.prog 14 #[.pointer (some ⟨b, 0, none⟩), insv] w (FireNo 70 w) := by
  obtain ⟨K, vi, vo, vt, vs, h⟩ := h
  exact (Fire_fit (c + 1) (by omega) h hins hf hn1 hfit hr).mono fun e w' h => h
theorem Fire_arg {w : World} {o : Col} {c d b : Nat} {t : Int} {ps keep : List Int} {n : Int} {insv : Value} {xss : List (List Int)} (h : Act w o c d b t ps keep n) (hins : LL w insv xss) (hf : ∀ l ∈ xss, ∀ x ∈ l, Fits x) (hn1 : Fits (n + 1))
    (hfit : ¬ xss.map (fun l => (l.length : Int)) = insP t ps) : Calls Try.prog 14 #[.pointer (some ⟨b, 0, none⟩), insv] w (FireNo 1 w) := by
  obtain ⟨K, vi, vo, vt, vs, h⟩ := h
  exact (Fire_not h hins hf hn1 hfit).mono fun e w' h => h

theorem Fired_act {w : World} {o : Col} {c d b : Nat} {t : Int} {ps keep : List Int} {n : Int} (h : Act w o c d b t ps keep n) : Calls Try.prog 15 #[.pointer (some ⟨b, 0, none⟩)] w fun e w' => e = .returned (.int .i64 n) ∧ w = w' := by
  obtain ⟨K, vi, vo, vt, vs, h⟩ := h
  exact Fired_body h
theorem State_act {w : World} {o : Col} {c d b : Nat} {t : Int} {ps keep : List Int} {n : Int} (h : Act w o c d b t ps keep n) : Calls Try.prog 24 #[.pointer (some ⟨b, 0, none⟩)] w (Stated w keep) := by
  obtain ⟨K, vi, vo, vt, vs, h⟩ := h
  exact State_body h
theorem Shape_act {w : World} {o : Col} {c d b : Nat} {t : Int} {ps keep : List Int} {n : Int} (h : Act w o c d b t ps keep n) : Calls Try.prog 30 #[.pointer (some ⟨b, 0, none⟩)] w (Rated w (insP t ps) (outsP t ps)) := by
  obtain ⟨K, vi, vo, vt, vs, h⟩ := h
  exact Shape_body h

theorem outs_ends {w : World} {o : Col} {c : Nat} {ov : Value} {xss : List (List Int)} (h : Outs w o c ov xss) : ∃ ao cap, ov = .slice ao xss.length cap := h.ll.slice
/-- its only row -/
theorem outs_one {w : World} {o : Col} {c : Nat} {ov : Value} {l : List Int} (h : Outs w o c ov [l]) : ∃ b off cap a0 c0, ov = .slice (some ⟨b, off, none⟩) 1 cap ∧ (1 : Int) ≤ cap ∧ w.cell? ⟨b, off, none⟩ = some (.slice a0 l.length c0) ∧ Has w (.slice a0 l.length c0) (ivs l) := by
  obtain ⟨av, cv, rfl⟩ := h.ll.slice
  obtain ⟨bv, ofv, rfl, hcv, hrow⟩ := h.ll.at (by simp)
  obtain ⟨a0, c0, hr0, hh0⟩ := hrow 0 (by simp)
  simp at hcv hr0 hh0
  exact ⟨bv, ofv, cv, a0, c0, rfl, by omega, hr0, hh0⟩
end Go.Proofs.Ytknmiiajeafjpaa
