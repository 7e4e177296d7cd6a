/- Rows of plain records; a slice of fewer records. No function in sight. -/
import Derived.Test.YtbmbfifempkhgaaEProg
namespace Go.Proofs.Ytbmbfifempkhgaa
open Go.RowKit

def flatV {α : Type} (hd : α → List Value) (l : List α) : List Value := l.flatMap hd
theorem flatV_len {α : Type} {hd : α → List Value} {sz : Nat} (hsz : ∀ a, (hd a).length = sz) : ∀ l : List α, (flatV hd l).length = l.length * sz
  | [] => by simp [flatV]
  | x :: l => by
    have ih := flatV_len hsz l
    have := hsz x
    simp only [flatV, List.flatMap_cons, List.length_append, List.length_cons, Nat.add_mul] at ih ⊢
    rw [ih]
    omega
theorem flatV_app {α : Type} (hd : α → List Value) (l m : List α) : flatV hd (l ++ m) = flatV hd l ++ flatV hd m := by simp [flatV]
theorem flatV_get {α : Type} {hd : α → List Value} {sz : Nat} (hsz : ∀ a, (hd a).length = sz) : ∀ (l : List α) (k i : Nat) (hk : k < l.length), i < sz → (flatV hd l)[k * sz + i]? = (hd l[k])[i]?
  | [], k, i, hk, hi => by simp at hk
  | x :: l, 0, i, hk, hi => by
    rw [Nat.zero_mul, Nat.zero_add]
    show (hd x ++ flatV hd l)[i]? = _
    have := hsz x
    rw [List.getElem?_append_left (by omega)]
    rfl
  | x :: l, k + 1, i, hk, hi => by
    have ih := flatV_get hsz l k i (by simpa using hk) hi
    have hl := hsz x
    show (hd x ++ flatV hd l)[(k + 1) * sz + i]? = _
    rw [List.getElem?_append_right (by rw [hl, Nat.add_mul]; omega), hl, show (k + 1) * sz + i - sz = k * sz + i by rw [Nat.add_mul]; omega, ih]
    rfl
/-- a record is its cells -/
def FlatR {α : Type} (hd : α → List Value) (_ : World) (a : α) (cs : List Value) : Prop := cs = hd a

section
variable {α : Type} {hd : α → List Value} {w w' : World} {o : Col} {c sz e : Nat} {l : List α}

/-- as what is appended -/
theorem Recs.news (hsz : ∀ a, (hd a).length = sz) (h0 : 0 < sz) {ao : Option Addr} {n cap : Nat} (h : Recs w sz (FlatR hd) (.slice ao n cap) l) : (ao = none → n = 0) ∧ ∀ ad, ao = some ad → ∀ j u, (flatV hd l)[j]? = some u → w.cell? (ad.add j) = some u := by
  rcases h with ⟨rfl, ao', cap', e⟩ | ⟨hp, b, off, cap', e, hl, hb, hcl⟩
  · cases e
    exact ⟨fun _ => rfl, fun _ _ j u hu => by simp [flatV] at hu⟩
  · cases e
    refine ⟨(fun h => by cases h), fun ad had j u hu => ?_⟩
    obtain rfl := Option.some.inj had
    rw [Addr.add_lit]
    have hj := (List.getElem?_eq_some_iff.1 hu).1
    rw [flatV_len hsz] at hj
    have hk : j / sz < l.length := Nat.div_lt_of_lt_mul (by rw [Nat.mul_comm]; exact hj)
    have hm : j % sz < sz := Nat.mod_lt _ h0
    have hjj : j / sz * sz + j % sz = j := by rw [Nat.mul_comm]; exact Nat.div_add_mod j sz
    obtain ⟨cs, h1, h2, h3⟩ := hcl (j / sz) hk
    have h4 := h3 (j % sz) hm
    rw [Nat.add_assoc, hjj] at h4
    rw [h4, show cs = hd l[j / sz] from h2]
    have h5 := flatV_get hsz l (j / sz) (j % sz) hk hm
    rw [hjj, hu] at h5
    rw [← h5]
    rfl
theorem Own.flat (hsz : ∀ a, (hd a).length = sz) {v : Value} (h : Own w o c e sz v l.length (flatV hd l)) : Recs w sz (FlatR hd) v l := by
  rcases h.1.2 with ⟨rfl, h0⟩ | ⟨G, cap, cur, rfl, _, hg, hnc, _⟩
  · rw [List.eq_nil_of_length_eq_zero h0]
    exact .inl ⟨rfl, none, 0, rfl⟩
  · by_cases hp : 0 < l.length
    · refine .inr ⟨hp, G, 0, cap, rfl, hnc, block_lt hg, fun k hk => ⟨hd l[k], hsz _, rfl, fun i hi => ?_⟩⟩
      have hg2 := flatV_get hsz l k i hk hi
      have hlen : i < (hd l[k]).length := by rw [hsz]; exact hi
      rw [List.getElem?_eq_getElem hlen] at hg2 ⊢
      have := h.1.cells (g := G) rfl _ _ hg2
      rw [Addr.add_lit] at this
      rw [Nat.add_assoc]
      exact this
    · rw [List.eq_nil_of_length_eq_zero (by omega : l.length = 0)]
      exact .inl ⟨rfl, some ⟨G, 0, none⟩, cap, rfl⟩
end
/-- the first records alone -/
theorem Recs.front {α : Type} {w : World} {sz : Nat} {R : World → α → List Value → Prop} {ao : Option Addr} {n cap : Nat} {l m : List α} (h : Recs w sz R (.slice ao n cap) (l ++ m)) : Recs w sz R (.slice ao l.length cap) l := by
  by_cases hp : 0 < l.length
  · obtain ⟨b, off, rfl, hc, hb, hcl⟩ := h.at (by simp; omega)
    refine .inr ⟨hp, b, off, cap, rfl, ?_, hb, fun k hk => ?_⟩
    · simp at hc; omega
    · obtain ⟨cs, h1, h2, h3⟩ := hcl k (by simp; omega)
      rw [List.getElem_append_left hk] at h2
      exact ⟨cs, h1, h2, h3⟩
  · rw [List.eq_nil_of_length_eq_zero (by omega : l.length = 0)]
    exact .inl ⟨rfl, ao, cap, rfl⟩
def portHd (p : GPort) : List Value := [.string p.name, .int .i64 p.actor, .int .i64 p.port]
def regionHd (r : GRegion) : List Value := [.int .i64 r.base, .int .i64 r.size]
def actorHd (a : GActor) : List Value := [.string a.name, .int .u8 a.tag]
def edgeHd (e : GEdge) : List Value := [.int .i64 e.src, .int .i64 e.sport, .int .i64 e.dst, .int .i64 e.dport]
theorem recs_mono {α : Type} {w : World} {sz : Nat} {R S : World → α → List Value → Prop} {v : Value} {l : List α} (h : Recs w sz R v l) (hRS : ∀ a cs, R w a cs → S w a cs) : Recs w sz S v l := by
  rcases h with h | ⟨hp, b, off, cap, e, hc, hb, hcl⟩
  · exact .inl h
  · refine .inr ⟨hp, b, off, cap, e, hc, hb, fun k hk => ?_⟩
    obtain ⟨cs, h1, h2, h3⟩ := hcl k hk
    exact ⟨cs, h1, hRS _ _ h2, h3⟩
end Go.Proofs.Ytbmbfifempkhgaa
