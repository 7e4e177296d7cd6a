/- How many tokens a firing gives on each port. No program in sight. -/
import Derived.Test.YtknmiiajeafjpaaReckon
import Derived.Test.YtknmiiajeafjpaaWeaveLaw
namespace Go.Proofs.Ytknmiiajeafjpaa
open Go.RowKit

theorem outs_le {t : Int} {ps : List Int} (h : goodP t ps) : ∀ x ∈ outsP t ps, x ≤ 64 := by
  unfold goodP pairP oneP at h
  intro x hx
  unfold outsP at hx
  split at hx
  · simp at hx; omega
  split at hx
  · simp at hx; omega
  split at hx
  · have := (List.mem_replicate.1 hx).2; omega
  split at hx
  · have := (List.mem_replicate.1 hx).2; omega
  split at hx
  · simp at hx
  · simp at hx; omega

theorem reck_lens {t : Int} {ps keep keep' : List Int} {xss outs : List (List Int)} (hg : goodP t ps) (hfit : xss.map (fun l => (l.length : Int)) = insP t ps) (hr : reckP t ps keep xss = some (outs, keep')) : outs.map (fun l => (l.length : Int)) = outsP t ps := by
  unfold goodP at hg
  rcases hg with ⟨rfl, _⟩ | ⟨rfl, hg⟩ | ⟨rfl, hg⟩ | ⟨rfl, hg⟩ | ⟨rfl, hg⟩ | ⟨rfl, hg⟩ | ⟨rfl, _⟩ | ⟨rfl, _⟩ | ⟨rfl, hg⟩ | ⟨rfl, _⟩ | ⟨rfl, hg⟩
  · simp only [reckP, if_true, Option.map_eq_some_iff] at hr
    obtain ⟨y, -, e⟩ := hr
    cases e; simp [outsP]
  · obtain ⟨_, h1, h2⟩ := hg
    simp [reckP] at hr
    obtain ⟨rfl, -⟩ := hr
    simp [outsP]; omega
  · simp [reckP] at hr
    obtain ⟨rfl, -⟩ := hr
    simp [outsP]
  · obtain ⟨_, ⟨h1, h2⟩, ⟨h3, h4⟩, h5⟩ := hg
    simp [reckP] at hr
    obtain ⟨rfl, -⟩ := hr
    have hx : xss.length = (hd ps).toNat := by have := congrArg List.length hfit; simpa [insP] using this
    simp [outsP, weaveP_len, hx]
    rw [Int.max_eq_left (by omega), Int.max_eq_left (by omega), Int.mul_comm]
  · obtain ⟨_, ⟨h1, h2⟩, ⟨h3, h4⟩, h5⟩ := hg
    simp [reckP] at hr
    obtain ⟨rfl, -⟩ := hr
    rw [part_lens]; simp [outsP]; omega
  · simp [reckP] at hr
    obtain ⟨y, -, rfl, -⟩ := hr
    simp [outsP]
  · simp [reckP] at hr
    obtain ⟨y, -, rfl, -⟩ := hr
    simp [outsP]
  · simp [reckP] at hr
    obtain ⟨-, rfl, -⟩ := hr
    simp [outsP]
  · simp [reckP] at hr
    obtain ⟨rfl, -⟩ := hr
    simp [outsP]
  · simp [reckP] at hr
    obtain ⟨-, rfl, -⟩ := hr
    simp [outsP]
  · simp [reckP] at hr
    obtain ⟨rfl, -⟩ := hr
    simp [outsP]

theorem reck_row {t : Int} {ps keep keep' : List Int} {xss outs : List (List Int)} (hg : goodP t ps) (hfit : xss.map (fun l => (l.length : Int)) = insP t ps) (hr : reckP t ps keep xss = some (outs, keep')) (j : Nat) : (outs[j]?.getD []).length ≤ 64 := by
  by_cases h : j < outs.length
  · have e := reck_lens hg hfit hr
    have hm : ((outs[j].length : Nat) : Int) ∈ outsP t ps := by rw [← e]; exact List.mem_map.2 ⟨outs[j], List.getElem_mem h, rfl⟩
    have := outs_le hg _ hm
    simp [h]; omega
  · simp [show outs.length ≤ j by omega]


theorem reck_count {t : Int} {ps keep keep' : List Int} {xss outs : List (List Int)} (hg : goodP t ps) (hfit : xss.map (fun l => (l.length : Int)) = insP t ps) (hr : reckP t ps keep xss = some (outs, keep')) : outs.length ≤ 64 := by
  have e := congrArg List.length (reck_lens hg hfit hr)
  have := (rates_len hg).2
  simp at e
  omega
end Go.Proofs.Ytknmiiajeafjpaa
