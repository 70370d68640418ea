/- The walks of both texts of DegreeOf. -/
import Derived.Test.YtbcmpgagceomgaaPolyB
namespace Go.Proofs.Ytbcmpgagceomgaa
open Go.RowKit

theorem trimK_one (xs : List Int) (j : Nat) : trimK xs j = 1 ↔ ∀ i, 1 ≤ i → i ≤ j → xs.getD i 0 = 0 := by
  induction j with
  | zero => exact ⟨fun _ i h1 h2 => by omega, fun _ => rfl⟩
  | succ j ih =>
    rw [trimK]
    split
    · rename_i h0
      rw [ih]
      constructor
      · intro h i h1 h2
        rcases Nat.lt_or_ge i (j + 1) with h3 | h3
        · exact h i h1 (by omega)
        · rw [show i = j + 1 by omega]; exact h0
      · intro h i h1 h2
        exact h i h1 (by omega)
    · rename_i h0
      constructor
      · intro h; omega
      · intro h; exact absurd (h (j + 1) (by omega) (Nat.le_refl _)) h0
theorem all0_iff {xs : List Int} (h1 : 1 ≤ xs.length) : allB xs 0 = true ↔ trimN xs = 1 ∧ xs[0] = 0 := by
  rw [allB_iff]
  unfold trimN
  rw [trimK_one]
  constructor
  · intro h
    refine ⟨fun i hi1 hi2 => ?_, ?_⟩
    · have := h xs[i] (List.getElem_mem (by omega))
      rw [List.getD_eq_getElem?_getD, List.getElem?_eq_getElem (by omega)]
      show xs[i] = 0
      omega
    · have := h xs[0] (List.getElem_mem (by omega)); omega
  · rintro ⟨h, h0⟩ x hx
    obtain ⟨i, hi, rfl⟩ := List.getElem_of_mem hx
    rcases Nat.eq_zero_or_pos i with rfl | hp
    · rw [h0]; omega
    · have := h i hp (by omega)
      rw [List.getD_eq_getElem?_getD, List.getElem?_eq_getElem hi] at this
      have e : xs[i] = 0 := this
      rw [e]; omega

/-- What DegreeOf returns. -/
def degP (xs : List Int) : Int := if polyB xs = true then (if allB xs 0 = true then -1 else (trimN xs : Int) - 1) else -2
theorem degP_no {xs : List Int} (h : polyB xs = false) : degP xs = -2 := by unfold degP; rw [h]; rfl
theorem degP_zero {xs : List Int} (h : polyB xs = true) (h2 : allB xs 0 = true) : degP xs = -1 := by unfold degP; rw [if_pos h, if_pos h2]
theorem degP_yes {xs : List Int} (h : polyB xs = true) (h2 : allB xs 0 = false) : degP xs = (trimN xs : Int) - 1 := by unfold degP; rw [if_pos h, h2]; rfl