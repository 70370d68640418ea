/- The binomial coefficient as both texts compute it: a product that is divided step by step; its size. Plain Lean: no program. -/
namespace Go.Proofs.Ytbcmpgagceomgaa

/-- What the loop of choose holds after i rounds. -/
def chz (n : Int) : Nat → Int
  | 0 => 1
  | i + 1 => (chz n i * (n - (i : Int))).tdiv ((i : Int) + 1)

theorem tdiv_bd (a b B : Int) (hb : 1 ≤ b) (h1 : -B ≤ a) (h2 : a ≤ B) : -B ≤ a.tdiv b ∧ a.tdiv b ≤ B := by
  rcases Int.le_total 0 a with ha | ha
  · rw [Int.tdiv_eq_ediv_of_nonneg ha]
    have := Int.ediv_nonneg ha (show 0 ≤ b by omega)
    have h3 : a / b ≤ a := Int.ediv_le_self b ha
    omega
  · obtain ⟨c, rfl⟩ : ∃ c, a = -c := ⟨-a, by omega⟩
    rw [Int.neg_tdiv, Int.tdiv_eq_ediv_of_nonneg (show 0 ≤ c by omega)]
    have := Int.ediv_nonneg (show 0 ≤ c by omega) (show 0 ≤ b by omega)
    have h3 : c / b ≤ c := Int.ediv_le_self b (by omega)
    omega

theorem mul_bd (a b A B : Int) (hA : 0 ≤ A) (hB : 0 ≤ B) (a1 : -A ≤ a) (a2 : a ≤ A) (b1 : -B ≤ b) (b2 : b ≤ B) : -(A * B) ≤ a * b ∧ a * b ≤ A * B := by
  have h : (a * b).natAbs ≤ (A * B).natAbs := by
    rw [Int.natAbs_mul, Int.natAbs_mul]
    exact Nat.mul_le_mul (by omega) (by omega)
  have hAB : 0 ≤ A * B := Int.mul_nonneg hA hB
  omega

theorem chz_bd (n : Int) (h1 : -300 ≤ n) (h2 : n ≤ 300) : ∀ i : Nat, i ≤ 7 → -(310 ^ i : Int) ≤ chz n i ∧ chz n i ≤ 310 ^ i
  | 0, _ => by simp [chz]
  | i + 1, hi => by
    have ih := chz_bd n h1 h2 i (by omega)
    have hm := mul_bd (chz n i) (n - (i : Int)) (310 ^ i) 310 (Int.pow_nonneg (by decide)) (by decide) ih.1 ih.2 (by omega) (by omega)
    have hd := tdiv_bd (chz n i * (n - (i : Int))) ((i : Int) + 1) (310 ^ i * 310) (by omega) hm.1 hm.2
    rw [show (310 : Int) ^ (i + 1) = 310 ^ i * 310 from Int.pow_succ ..]
    exact hd

theorem pow_mono (i : Nat) (h : i ≤ 6) : (310 : Int) ^ i ≤ 887503681000000 := by
  rcases i with _ | _ | _ | _ | _ | _ | _ | i <;> first | decide | omega

/-- The coefficient's size, and that of the product ahead of the division. -/
theorem chz_small (n : Int) (h1 : -300 ≤ n) (h2 : n ≤ 300) (i : Nat) (hi : i ≤ 6) : -887503681000000 ≤ chz n i ∧ chz n i ≤ 887503681000000 := by
  have := chz_bd n h1 h2 i (by omega)
  have := pow_mono i hi
  omega
theorem chz_prod (n : Int) (h1 : -300 ≤ n) (h2 : n ≤ 300) (i : Nat) (hi : i ≤ 6) :
    -275126141110000000 ≤ chz n i * (n - (i : Int)) ∧ chz n i * (n - (i : Int)) ≤ 275126141110000000 := by
  have h := chz_small n h1 h2 i hi
  have := mul_bd (chz n i) (n - (i : Int)) 887503681000000 310 (by decide) (by decide) h.1 h.2 (by omega) (by omega)
  omega
end Go.Proofs.Ytbcmpgagceomgaa
