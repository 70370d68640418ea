/- The coefficients are exact, and each is the sum of two others. Plain Lean: no program. -/
import Derived.Test.YtbcmpgagceomgaaEvalPlain
namespace Go.Proofs.Ytbcmpgagceomgaa

theorem dvd_all {m : Int} {D : Int → Int} (h0 : m ∣ D 0) (hs : ∀ n, m ∣ D (n + 1) - D n) (n : Int) : m ∣ D n := by
  have up : ∀ k : Nat, m ∣ D k := by
    intro k
    induction k with
    | zero => exact h0
    | succ k ih =>
      have h := Int.dvd_add (hs (k : Int)) ih
      rw [Int.sub_add_cancel] at h
      exact h
  have down : ∀ k : Nat, m ∣ D (-(k : Int)) := by
    intro k
    induction k with
    | zero => exact h0
    | succ k ih =>
      have h := Int.dvd_sub ih (hs (-((k + 1 : Nat) : Int)))
      rw [show -((k + 1 : Nat) : Int) + 1 = -(k : Int) by omega, Int.sub_sub_self] at h
      exact h
  rcases Int.le_total 0 n with h | h
  · obtain ⟨k, rfl⟩ := Int.eq_ofNat_of_zero_le h
    exact up k
  · obtain ⟨k, hk⟩ := Int.eq_ofNat_of_zero_le (show 0 ≤ -n by omega)
    have := down k
    rw [← hk, Int.neg_neg] at this
    exact this
theorem chz_none (j : Nat) : chz 0 (j + 1) = 0 := by
  induction j with
  | zero => rfl
  | succ j ih => rw [chz, ih, Int.zero_mul]; exact Int.zero_tdiv _
theorem chz_exact {j : Nat} (hd : ∀ n : Int, ((j : Int) + 1) ∣ chz n j * (n - (j : Int))) (n : Int) : ((j : Int) + 1) * chz n (j + 1) = chz n j * (n - (j : Int)) := by
  rw [chz]
  exact Int.mul_tdiv_cancel' (hd n)
theorem step_alg (a b n j : Int) (e : (j + 1) * a = b * (n - j)) : (a + b) * (n + 1 - (j + 1)) - a * (n - (j + 1)) = (j + 1 + 1) * a := by
  grind
theorem chz_both (j : Nat) : (∀ n : Int, ((j : Int) + 1) * chz n (j + 1) = chz n j * (n - (j : Int))) ∧ (∀ n : Int, chz (n + 1) (j + 1) = chz n (j + 1) + chz n j) := by
  have fin : ∀ j : Nat, (∀ n : Int, ((j : Int) + 1) * chz n (j + 1) = chz n j * (n - (j : Int))) → (∀ n : Int, chz (n + 1) j * (n + 1 - (j : Int)) - chz n j * (n - (j : Int)) = ((j : Int) + 1) * chz n j) → ∀ n : Int, chz (n + 1) (j + 1) = chz n (j + 1) + chz n j := by
    intro j he hs n
    have h := hs n
    rw [← he, ← he, ← Int.mul_sub] at h
    have := Int.eq_of_mul_eq_mul_left (show (j : Int) + 1 ≠ 0 by omega) h
    omega
  induction j with
  | zero =>
    have he := chz_exact (j := 0) (fun n => ⟨chz n 0 * (n - ((0 : Nat) : Int)), by simp⟩)
    exact ⟨he, fin 0 he fun n => by simp [chz]; omega⟩
  | succ j ih =>
    obtain ⟨E, P⟩ := ih
    have hs : ∀ n : Int, chz (n + 1) (j + 1) * (n + 1 - ((j + 1 : Nat) : Int)) - chz n (j + 1) * (n - ((j + 1 : Nat) : Int)) = (((j + 1 : Nat) : Int) + 1) * chz n (j + 1) := by
      intro n
      rw [P n, show ((j + 1 : Nat) : Int) = (j : Int) + 1 by omega]
      exact step_alg _ _ _ _ (E n)
    have he := chz_exact (j := j + 1) (fun n => dvd_all (D := fun n => chz n (j + 1) * (n - ((j + 1 : Nat) : Int))) (by show _ ∣ chz 0 (j + 1) * _; rw [chz_none, Int.zero_mul]; exact Int.dvd_zero _) (fun n => ⟨chz n (j + 1), hs n⟩) n)
    exact ⟨he, fin (j + 1) he hs⟩
theorem pascal (n : Int) (j : Nat) : chz (n + 1) (j + 1) = chz n (j + 1) + chz n j := (chz_both j).2 n

/-- One step of a polynomial is the polynomial of its later coefficients. -/
theorem evT_cons (a : Int) (p : List Int) (n : Int) (j : Nat) : evT (a :: p) (n + 1) (j + 1) = evT (a :: p) n (j + 1) + evT p n j := by
  induction j with
  | zero => simp [evT, chz]
  | succ j ih =>
    have h1 : evT (a :: p) (n + 1) (j + 1 + 1) = evT (a :: p) (n + 1) (j + 1) + (a :: p).getD (j + 1) 0 * chz (n + 1) (j + 1) := rfl
    have h2 : evT (a :: p) n (j + 1 + 1) = evT (a :: p) n (j + 1) + (a :: p).getD (j + 1) 0 * chz n (j + 1) := rfl
    have e : evT p n (j + 1) = evT p n j + (a :: p).getD (j + 1) 0 * chz n j := rfl
    rw [h1, ih, h2, e, pascal, Int.mul_add]
    omega
theorem evZ_step (p : List Int) (n : Int) : evZ p (n + 1) - evZ p n = evZ (p.drop 1) n := by
  cases p with
  | nil => rfl
  | cons a p =>
    have h := evT_cons a p n p.length
    show evT (a :: p) (n + 1) (p.length + 1) - evT (a :: p) n (p.length + 1) = evT p n p.length
    omega
end Go.Proofs.Ytbcmpgagceomgaa
