/- The value of a polynomial, as both texts add it up; its size. Plain Lean: no program. -/
import Derived.Test.YtbcmpgagceomgaaChoosePlain
namespace Go.Proofs.Ytbcmpgagceomgaa

theorem tdiv_tight (a b A : Int) (hb : 1 ≤ b) (h1 : -A ≤ a) (h2 : a ≤ A) : -(A / b) ≤ a.tdiv b ∧ a.tdiv b ≤ A / b := by
  rcases Int.le_total 0 a with ha | ha
  · rw [Int.tdiv_eq_ediv_of_nonneg ha]
    have h3 : a / b ≤ A / b := Int.ediv_le_ediv (by omega) h2
    have h4 := Int.ediv_nonneg ha (show 0 ≤ b by omega)
    omega
  · obtain ⟨c, rfl⟩ : ∃ c, a = -c := ⟨-a, by omega⟩
    rw [Int.neg_tdiv, Int.tdiv_eq_ediv_of_nonneg (show 0 ≤ c by omega)]
    have h3 : c / b ≤ A / b := Int.ediv_le_ediv (by omega) (by omega)
    have h4 := Int.ediv_nonneg (show 0 ≤ c by omega) (show 0 ≤ b by omega)
    omega

theorem chz_next (n C D : Int) (i : Nat) (hC : 0 ≤ C) (h1 : -206 ≤ n) (h2 : n ≤ 206) (hi : i ≤ 6) (hc : -C ≤ chz n i ∧ chz n i ≤ C) (hD : C * 212 / ((i : Int) + 1) ≤ D) : -D ≤ chz n (i + 1) ∧ chz n (i + 1) ≤ D := by
  have hm := mul_bd (chz n i) (n - (i : Int)) C 212 hC (by decide) hc.1 hc.2 (by omega) (by omega)
  have hd := tdiv_tight (chz n i * (n - (i : Int))) ((i : Int) + 1) (C * 212) (by omega) hm.1 hm.2
  rw [chz]
  omega

/-- The coefficient's size for the arguments that occur. -/
theorem chz_tight (n : Int) (h1 : -206 ≤ n) (h2 : n ≤ 206) (i : Nat) (hi : i ≤ 6) : -126100000000 ≤ chz n i ∧ chz n i ≤ 126100000000 := by
  have c0 : -1 ≤ chz n 0 ∧ chz n 0 ≤ 1 := by simp [chz]
  have c1 := chz_next n 1 212 0 (by decide) h1 h2 (by decide) c0 (by decide)
  have c2 := chz_next n 212 22472 1 (by decide) h1 h2 (by decide) c1 (by decide)
  have c3 := chz_next n 22472 1588022 2 (by decide) h1 h2 (by decide) c2 (by decide)
  have c4 := chz_next n 1588022 84165166 3 (by decide) h1 h2 (by decide) c3 (by decide)
  have c5 := chz_next n 84165166 3568603039 4 (by decide) h1 h2 (by decide) c4 (by decide)
  have c6 := chz_next n 3568603039 126100000000 5 (by decide) h1 h2 (by decide) c5 (by decide)
  simp only [Nat.reduceAdd] at c1 c2 c3 c4 c5 c6
  have : i = 0 ∨ i = 1 ∨ i = 2 ∨ i = 3 ∨ i = 4 ∨ i = 5 ∨ i = 6 := by omega
  rcases this with rfl | rfl | rfl | rfl | rfl | rfl | rfl <;> omega

/-- The sum of the first j terms. -/
def evT (xs : List Int) (n : Int) : Nat → Int
  | 0 => 0
  | j + 1 => evT xs n j + xs.getD j 0 * chz n j
def evZ (xs : List Int) (n : Int) : Int := evT xs n xs.length
theorem evT_step {xs : List Int} {n : Int} {j : Nat} (h : j < xs.length) : evT xs n (j + 1) = evT xs n j + xs[j] * chz n j := by
  rw [evT, List.getD_eq_getElem?_getD, List.getElem?_eq_getElem h]; rfl
theorem term_bd {xs : List Int} (hb : ∀ x ∈ xs, -100000 ≤ x ∧ x ≤ 100000) {n : Int} (h1 : -206 ≤ n) (h2 : n ≤ 206) {j : Nat} (h : j < xs.length) (h7 : xs.length ≤ 7) :
    -12610000000000000 ≤ xs[j] * chz n j ∧ xs[j] * chz n j ≤ 12610000000000000 := by
  have hx := hb xs[j] (List.getElem_mem h)
  have hc := chz_tight n h1 h2 j (by omega)
  have := mul_bd xs[j] (chz n j) 100000 126100000000 (by decide) (by decide) hx.1 hx.2 hc.1 hc.2
  omega
theorem evT_bd {xs : List Int} (hb : ∀ x ∈ xs, -100000 ≤ x ∧ x ≤ 100000) {n : Int} (h1 : -206 ≤ n) (h2 : n ≤ 206) (h7 : xs.length ≤ 7) (j : Nat) (hj : j ≤ xs.length) :
    -(12610000000000000 * (j : Int)) ≤ evT xs n j ∧ evT xs n j ≤ 12610000000000000 * (j : Int) := by
  induction j with
  | zero => simp [evT]
  | succ j ih =>
    have ih := ih (by omega)
    have ht := term_bd hb h1 h2 (show j < xs.length by omega) h7
    rw [evT_step (show j < xs.length by omega)]
    omega
theorem evT_small {xs : List Int} (hb : ∀ x ∈ xs, -100000 ≤ x ∧ x ≤ 100000) {n : Int} (h1 : -206 ≤ n) (h2 : n ≤ 206) (h7 : xs.length ≤ 7) (j : Nat) (hj : j ≤ xs.length) :
    -88270000000000000 ≤ evT xs n j ∧ evT xs n j ≤ 88270000000000000 := by
  have := evT_bd hb h1 h2 h7 j hj
  omega
end Go.Proofs.Ytbcmpgagceomgaa
