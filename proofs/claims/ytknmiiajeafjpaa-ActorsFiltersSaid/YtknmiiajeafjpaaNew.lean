/- A new actor. -/
import Derived.Test.YtknmiiajeafjpaaOfany
import Derived.Test.YtknmiiajeafjpaaFireall
namespace Go.Proofs.Ytknmiiajeafjpaa
open Go.RowKit

theorem make_any {o : Col} {c : Nat} (w : World) (t : Int) (vi vo : Value) (ao : Option Addr) (n cap : Nat) (ps : List Int) (hg : goodP t ps) (h : Ints w o c (.slice ao n cap) ps) : Calls Try.prog 32 #[.int .u8 t, .agg #[vi, vo, .int .i64 0], .slice ao n cap] w (Made w t vi vo ps) := by
  rcases goodP_cases hg with rfl | rfl | rfl | rfl | rfl | rfl | rfl | rfl | rfl | rfl | rfl
  · have h1 : 1 ≤ ps.length ∧ ps.length ≤ 16 := by simpa [goodP] using hg
    exact make_1 w vi vo ao n cap ps h h1.1 h1.2
  · exact make_2 w vi vo _ ps
  · exact make_3 w vi vo _ ps
  · exact make_4 w vi vo _ ps
  · exact make_5 w vi vo _ ps
  · exact make_6 w vi vo _ ps
  · exact make_7 w vi vo _ ps
  · exact make_8 w vi vo _ ps
  · exact make_9 w vi vo _ ps
  · have h1 : ps.length = 2 := by simpa [goodP] using hg
    obtain rfl := h.len
    match ps, h1, h with
    | [x, y], _, h => exact make_10 w vi vo ao cap x y h
  · exact make_11 w vi vo _ ps

/-- what 'New' answers -/
def Newed (w : World) (o : Col) (c d : Nat) (t : Int) (ps : List Int) (e : Ending) (w' : World) : Prop :=
  ∃ b K vi vo vt vs o', e = .returned (.tuple #[.pointer (some ⟨b, 0, none⟩), .int .i64 0]) ∧ Turn o o' (fun _ => False) w w' ∧ BodyAt w' o' c d b t ps (keep0 t ps) 0 K vi vo vt vs
def NewNo (w : World) (x : Int) (e : Ending) (w' : World) : Prop := e = .returned (.tuple #[.pointer none, .int .i64 x]) ∧ Below w.heap.size w w'

theorem keep0_facts {t : Int} {ps : List Int} (hg : goodP t ps) (hf : ∀ x ∈ ps, Fits x) : (∀ x ∈ keep0 t ps, Fits x) ∧ (t = 8 ∨ t = 10 → (keep0 t ps).length = 1) ∧ (t ≠ 1 → t ≠ 8 → t ≠ 10 → keep0 t ps = []) ∧ (t = 1 → ps.length = (keep0 t ps).length + 1) := by
  have f0 : Fits 0 := by unfold Fits; omega
  refine ⟨fun x hx => ?_, fun h => ?_, fun h1 h2 h3 => ?_, fun h => ?_⟩
  · unfold keep0 at hx
    split at hx
    · rw [(List.mem_replicate.1 hx).2]; exact f0
    split at hx
    · rw [List.mem_singleton.1 hx]; exact f0
    split at hx
    · rename_i h10
      have h2 : ps.length = 2 := by subst h10; simpa [goodP] using hg
      rw [List.mem_singleton.1 hx]
      exact hf _ (by unfold hd; rw [List.getElem?_eq_getElem (by omega), Option.getD_some]; exact List.getElem_mem _)
    · cases hx
  · rcases h with rfl | rfl <;> rfl
  · unfold keep0; rw [if_neg h1, if_neg h2, if_neg h3]
  · subst h
    have h1 : 1 ≤ ps.length ∧ ps.length ≤ 16 := by simpa [goodP] using hg
    simp [keep0]; omega

theorem own_ints {w : World} {N : Nat} {o : Col} {d e : Nat} {v : Value} {l : List Int} (h : w.ownsRow N e 1 v l.length (ivs l)) (ho : ∀ k, v.ownBlock = some k → o k = d) : Ints w o d v l :=
  Own.vals (e := e) (n := l.length) ⟨owns_base h (fun _ _ => Nat.zero_le _), ho⟩

theorem of_ok {o : Col} {c : Nat} (w : World) (t : Int) (ao : Option Addr) (n cap : Nat) (ps : List Int) (hg : goodP t ps) (hl : ps.length ≤ 17600000000000) (h : Ints w o c (.slice ao n cap) ps) : Calls Try.prog 31 #[.int .u8 t, .slice ao n cap] w (OfOk w t ps) := by
  rcases goodP_cases hg with rfl | rfl | rfl | rfl | rfl | rfl | rfl | rfl | rfl | rfl | rfl
  · exact (of_1_any w ao n cap ps hl h).1 hg
  · exact (of_2_any w ao n cap ps hl h).1 hg
  · exact (of_3_any w ao n cap ps hl h).1 hg
  · exact (of_4_any w ao n cap ps hl h).1 hg
  · exact (of_5_any w ao n cap ps hl h).1 hg
  · exact (of_6_any w ao n cap ps hl h).1 hg
  · exact (of_7_any w ao n cap ps hl h).1 hg
  · exact (of_8_any w ao n cap ps hl h).1 hg
  · exact (of_9_any w ao n cap ps hl h).1 hg
  · exact (of_10_any w ao n cap ps hl h).1 hg
  · exact (of_11_any w ao n cap ps hl h).1 hg
theorem of_bad {o : Col} {c : Nat} (w : World) (t : Int) (ao : Option Addr) (n cap : Nat) (ps : List Int) (ht : TagOk t) (hg : ¬ goodP t ps) (hl : ps.length ≤ 17600000000000) (h : Ints w o c (.slice ao n cap) ps) : Calls Try.prog 31 #[.int .u8 t, .slice ao n cap] w (OfNo w 61) := by
  rcases ht with rfl | rfl | rfl | rfl | rfl | rfl | rfl | rfl | rfl | rfl | rfl
  · exact (of_1_any w ao n cap ps hl h).2 hg
  · exact (of_2_any w ao n cap ps hl h).2 hg
  · exact (of_3_any w ao n cap ps hl h).2 hg
  · exact (of_4_any w ao n cap ps hl h).2 hg
  · exact (of_5_any w ao n cap ps hl h).2 hg
  · exact (of_6_any w ao n cap ps hl h).2 hg
  · exact (of_7_any w ao n cap ps hl h).2 hg
  · exact (of_8_any w ao n cap ps hl h).2 hg
  · exact (of_9_any w ao n cap ps hl h).2 hg
  · exact (of_10_any w ao n cap ps hl h).2 hg
  · exact (of_11_any w ao n cap ps hl h).2 hg
/-- which number the error has -/
def errP (t : Int) : Int := if 1 ≤ t ∧ t ≤ 11 then 61 else 60
theorem of_no {o : Col} {c : Nat} (w : World) (t : Int) (ao : Option Addr) (n cap : Nat) (ps : List Int) (hg : ¬ goodP t ps) (hl : ps.length ≤ 17600000000000) (h : Ints w o c (.slice ao n cap) ps) : Calls Try.prog 31 #[.int .u8 t, .slice ao n cap] w (OfNo w (errP t)) := by
  unfold errP
  by_cases ht : 1 ≤ t ∧ t ≤ 11
  · rw [if_pos ht]; exact of_bad w t ao n cap ps (by unfold TagOk; omega) hg hl h
  · rw [if_neg ht]; exact of_tag w t _ (by omega)

set_option maxRecDepth 100000 in
theorem New_ok {o1 : Col} {c1 : Nat} {w : World} {t : Int} {ao : Option Addr} {n cap : Nat} {ps : List Int} (o : Col) (c d : Nat) (hcd : c ≠ d) (hg : goodP t ps) (hf : ∀ x ∈ ps, Fits x) (h : Ints w o1 c1 (.slice ao n cap) ps) : Calls Try.prog 12 #[.int .u8 t, .slice ao n cap] w (Newed w o c d t ps) := by
  have hl : ps.length ≤ 64 := by
    unfold goodP oneP pairP at hg
    omega
  have HH := Lib.hid h
  have HG := Lib.hid hg
  have HF := Lib.hid hf
  clear h hg hf
  go_enter Try.func12, Try.ntmps12
  go_wp2_with fail
  refine (of_ok w t ao n cap ps HG.out (by omega) HH.out).mono ?_
  rintro e w1 ⟨vi, vo, rfl, r1, r2, hb1⟩
  obtain ⟨ai, ci, rfl⟩ := owns_slice r1
  obtain ⟨a2, c2, rfl⟩ := owns_slice r2
  have R1 := Lib.hid r1
  have R2 := Lib.hid r2
  have H1 := Lib.hid (HH.out.has.below hb1)
  clear r1 r2
  go_wp2_with fail
  refine (make_any w1 t _ _ ao n cap ps HG.out H1.out).mono ?_
  rintro e w2 ⟨K, vt, vs, rfl, hK, hKb, hb2, htt⟩
  have HK := Lib.hid hK
  have HT := Lib.hid htt
  clear hK htt
  go_wp2
  go_ret2
  have s1 := hb1.size
  have s2 := hb2.size
  have hKl := block_lt HK.out
  have hb : Below w.heap.size w (w2.alloc (.cells #[.iface (kP t) (.pointer (some ⟨K, 0, none⟩))] 73)) := (hb1.trans (hb2.mono s1)).alloc (by omega) _
  have M2 : Mods (fun _ => False) w1 w2 := Mods.of_below hb2 _
  have hlow : ∀ v : Value, ∀ l : List Int, w1.ownsRow w.heap.size 3 1 v l.length (ivs l) → Ints (w2.alloc (.cells #[.iface (kP t) (.pointer (some ⟨K, 0, none⟩))] 73)) (fun k => if k < w.heap.size then o k else if k = K then c else d) d v l := fun v l hv => by
    refine own_ints ((owns_kept hv M2 (fun _ _ h => h)).alloc _) fun k hk => ?_
    have := hv.lt k hk
    rw [if_neg (by omega), if_neg (by omega)]
  have hhigh : ∀ v : Value, ∀ l : List Int, w2.ownsRow w1.heap.size 3 1 v l.length (ivs l) → v.ownBlock ≠ some K → Ints (w2.alloc (.cells #[.iface (kP t) (.pointer (some ⟨K, 0, none⟩))] 73)) (fun k => if k < w.heap.size then o k else if k = K then c else d) d v l := fun v l hv hvK => by
    refine own_ints (hv.alloc _) fun k hk => ?_
    have := hv.lt k hk
    rw [if_neg (by omega), if_neg (fun e => hvK (by rw [hk, e]))]
  have hk0 := keep0_facts HG.out HF.out
  refine ⟨w2.heap.size, K, _, _, vt, vs, _, rfl, ⟨Mods.of_below hb _, fun k hk => if_pos hk⟩, ⟨⟨heap_alloc_new _ _, ?_⟩, ⟨block_alloc HK.out _, ?_⟩, hlow _ _ R1.out, hlow _ _ R2.out, fun e => ?_, HG.out, HF.out, hk0.1, hk0.2.1, hk0.2.2.1, by unfold Fits; omega, hcd⟩⟩
  · simp only []
    rw [if_neg (by omega), if_neg (by omega)]
  · simp only []
    rw [if_neg (by omega), if_pos trivial]
  · obtain ⟨t1, t2, t3, t4⟩ := HT.out e
    subst e
    exact ⟨hhigh _ _ t1 t3, hhigh _ _ t2 t4, hk0.2.2.2 rfl⟩

set_option maxRecDepth 100000 in
theorem New_no {o1 : Col} {c1 : Nat} {w : World} {t : Int} {ao : Option Addr} {n cap : Nat} {ps : List Int} (hg : ¬ goodP t ps) (hl : ps.length ≤ 17600000000000) (h : Ints w o1 c1 (.slice ao n cap) ps) : Calls Try.prog 12 #[.int .u8 t, .slice ao n cap] w (NewNo w (errP t)) := by
  have HH := Lib.hid h
  have HG := Lib.hid hg
  have hx : errP t = 60 ∨ errP t = 61 := by unfold errP; split <;> simp
  have hof := of_no w t ao n cap ps hg hl h
  generalize errP t = x at *
  clear h hg
  go_enter Try.func12, Try.ntmps12
  go_wp2_with fail
  refine hof.mono ?_
  rintro e w1 ⟨rfl, hb1⟩
  clear hof
  rcases hx with rfl | rfl
  all_goals
    go_wp2
    go_ret2
    exact ⟨rfl, hb1⟩
end Go.Proofs.Ytknmiiajeafjpaa
