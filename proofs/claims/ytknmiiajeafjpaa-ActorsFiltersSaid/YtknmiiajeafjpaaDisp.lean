/- Which function a call through the kind is, kind by kind. -/
import Derived.Test.YtknmiiajeafjpaaMake1
namespace Go.Proofs.Ytknmiiajeafjpaa
open Go.RowKit

/-- what reckons, tag by tag -/
def kF (t : Int) : Nat := if t = 1 then 77 else if t = 2 then 84 else if t = 3 then 85 else if t = 4 then 86 else if t = 5 then 87 else if t = 6 then 88 else if t = 7 then 90 else if t = 8 then 93 else if t = 9 then 94 else if t = 10 then 95 else 96

/-- what tells what is kept -/
def kK (t : Int) : Nat := if t = 1 then 75 else if t = 8 then 92 else if t = 10 then 92 else 83

def TagOk (t : Int) : Prop := t = 1 ∨ t = 2 ∨ t = 3 ∨ t = 4 ∨ t = 5 ∨ t = 6 ∨ t = 7 ∨ t = 8 ∨ t = 9 ∨ t = 10 ∨ t = 11

theorem disp_count {t : Int} (h : TagOk t) (K : Nat) (w : World) : (method 243 (kP t) (.pointer (some ⟨K, 0, none⟩)) "pianola/actors.count").run Try.prog w = .ok (73, .pointer (some ⟨K, 0, none⟩)) w := by
  rcases h with rfl | rfl | rfl | rfl | rfl | rfl | rfl | rfl | rfl | rfl | rfl <;> kernel_rfl
theorem disp_fired {t : Int} (h : TagOk t) (K : Nat) (w : World) : (method 243 (kP t) (.pointer (some ⟨K, 0, none⟩)) "pianola/actors.fired").run Try.prog w = .ok (74, .pointer (some ⟨K, 0, none⟩)) w := by
  rcases h with rfl | rfl | rfl | rfl | rfl | rfl | rfl | rfl | rfl | rfl | rfl <;> kernel_rfl
theorem disp_rates {t : Int} (h : TagOk t) (K : Nat) (w : World) : (method 243 (kP t) (.pointer (some ⟨K, 0, none⟩)) "pianola/actors.rates").run Try.prog w = .ok (76, .pointer (some ⟨K, 0, none⟩)) w := by
  rcases h with rfl | rfl | rfl | rfl | rfl | rfl | rfl | rfl | rfl | rfl | rfl <;> kernel_rfl
theorem disp_kept {t : Int} (h : TagOk t) (K : Nat) (w : World) : (method 243 (kP t) (.pointer (some ⟨K, 0, none⟩)) "pianola/actors.kept").run Try.prog w = .ok (kK t, .pointer (some ⟨K, 0, none⟩)) w := by
  rcases h with rfl | rfl | rfl | rfl | rfl | rfl | rfl | rfl | rfl | rfl | rfl <;> kernel_rfl
theorem disp_reckon {t : Int} (h : TagOk t) (K : Nat) (w : World) : (method 243 (kP t) (.pointer (some ⟨K, 0, none⟩)) "pianola/actors.reckon").run Try.prog w = .ok (kF t, .pointer (some ⟨K, 0, none⟩)) w := by
  rcases h with rfl | rfl | rfl | rfl | rfl | rfl | rfl | rfl | rfl | rfl | rfl <;> kernel_rfl
end Go.Proofs.Ytknmiiajeafjpaa
