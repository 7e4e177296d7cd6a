/- What came in, said plainly for a walk: a struct of a number, two slices of ints, and a number. No program in sight. -/
import Derived.Test.YtifhnealecndnaaIn
import Derived.ChangeSame
namespace Go.Proofs.Ytifhnealecndnaa
open Go.ChangeShapes Go.WideShapes Go.ChangeAt Go.RowKit

theorem open_in_ints_cells {P : Program} {H : Type} {enc : TypeId × Value → H} {W : World} {t e : TypeId} {x : Value} {fuel : Nat} {y : DataW H × List MemPlace} (ht : P.underlying t = some (.slice e)) (he : P.underlying e = some (.int .i64)) (hc : P.cellsOf e = 1)
    (h : DataW.trod enc P W 0 (fun _ => true) true fuel t [x] = some y) : ∃ zs, InInts W x zs ∧ zs.length + 1 ≤ Rows.uptoBulk y.1 := by
  have hx : ∃ a len cap, x = .slice a len cap := by
    rcases open_ints ht he hc h with ⟨hcs, _⟩ | ⟨a, len, cap, zs, hcs, _⟩
    · exact ⟨_, _, _, List.head_eq_of_cons_eq hcs⟩
    · exact ⟨_, _, _, List.head_eq_of_cons_eq hcs⟩
  obtain ⟨a, len, cap, rfl⟩ := hx
  exact open_in_ints (d := y.1) (p := y.2) ht he hc ⟨_, _, _, rfl⟩ ⟨fuel, by simpa [Value.cells] using h⟩

theorem trod_struct4 {P : Program} {H : Type} {enc : TypeId × Value → H} {W : World} {base : Nat} {spare : Nat → Bool} {held : Bool} {t : TypeId} {f0 f1 f2 f3 : Field} {fuel : Nat} {cs : List Value} {x : DataW H × List MemPlace} (ht : P.underlying t = some (.struct #[f0, f1, f2, f3])) (h : DataW.trod enc P W base spare held fuel t cs = some x) :
    ∃ y0 y1 y2 y3 n, x.1 = .agg [y0.1, y1.1, y2.1, y3.1] ∧ cs.length = P.cellsOf t ∧ DataW.trod enc P W base spare held n f0.type ((cs.drop f0.offset).take (P.cellsOf f0.type)) = some y0 ∧ DataW.trod enc P W base spare held n f1.type ((cs.drop f1.offset).take (P.cellsOf f1.type)) = some y1 ∧
      DataW.trod enc P W base spare held n f2.type ((cs.drop f2.offset).take (P.cellsOf f2.type)) = some y2 ∧ DataW.trod enc P W base spare held n f3.type ((cs.drop f3.offset).take (P.cellsOf f3.type)) = some y3 := by
  obtain ⟨xs, n, _, rfl, hl, hlen, hf⟩ := DataW.trod_struct ht h
  match xs, hlen with
  | [y0, y1, y2, y3], _ => exact ⟨y0, y1, y2, y3, n, by simp, hl, by simpa using hf 0 f0 rfl, by simpa using hf 1 f1 rfl, by simpa using hf 2 f2 rfl, by simpa using hf 3 f3 rfl⟩

theorem open_ranged {P : Program} {H : Type} {enc : TypeId × Value → H} {W : World} {t e : TypeId} {f0 f1 f2 f3 : Field} {v : Value} {d : DataW H} {p : List MemPlace} (ht : P.underlying t = some (.struct #[f0, f1, f2, f3]))
    (h0 : P.underlying f0.type = some (.int .i64)) (h1 : P.underlying f1.type = some (.slice e)) (h2 : P.underlying f2.type = some (.slice e)) (h3 : P.underlying f3.type = some (.int .i64)) (he : P.underlying e = some (.int .i64)) (hc : P.cellsOf e = 1)
    (o0 : f0.offset = 0) (o1 : f1.offset = 1) (o2 : f2.offset = 2) (o3 : f3.offset = 3) (c0 : P.cellsOf f0.type = 1) (c1 : P.cellsOf f1.type = 1) (c2 : P.cellsOf f2.type = 1) (c3 : P.cellsOf f3.type = 1) (ct : P.cellsOf t = 4)
    (hv : ∃ cs, v = .agg cs ∧ cs.size = P.cellsOf t) (h : DataW.Trod enc P W 0 (fun _ => true) true t v d p) :
    ∃ C st v1 v2 zs ps, v = .agg #[.int .i64 C, v1, v2, .int .i64 st] ∧ (-9223372036854775808 ≤ C ∧ C ≤ 9223372036854775807) ∧ InInts W v1 zs ∧ InInts W v2 ps ∧ zs.length + ps.length + 2 ≤ Rows.uptoBulk d := by
  obtain ⟨cs, rfl, hcs⟩ := hv
  obtain ⟨fuel, hf⟩ := h
  obtain ⟨y0, y1, y2, y3, n, hx, hl, g0, g1, g2, g3⟩ := trod_struct4 ht hf
  rw [ct] at hcs
  obtain ⟨l⟩ := cs
  match l, hcs with
  | [x0, x1, x2, x3], _ =>
    simp only [Value.cells, o0, o1, o2, o3, c0, c1, c2, c3] at g0 g1 g2 g3
    simp at g0 g1 g2 g3
    obtain ⟨z0, e0, _, w0⟩ := DataW.trod_int h0 g0
    obtain ⟨z3, e3, _, w3⟩ := DataW.trod_int h3 g3
    obtain ⟨zs, i1, b1⟩ := open_in_ints_cells h1 he hc g1
    obtain ⟨ps, i2, b2⟩ := open_in_ints_cells h2 he hc g2
    simp at e0 e3
    subst e0 e3
    refine ⟨z0, z3, x1, x2, zs, ps, rfl, wf_i64 w0, i1, i2, ?_⟩
    have hd : d = .agg [y0.1, y1.1, y2.1, y3.1] := hx
    rw [hd]
    simp only [Rows.uptoBulk, Rows.uptoBulkAll]
    omega
end Go.Proofs.Ytifhnealecndnaa
