/- The walks of the tests on numbers (within, l1In, l2Argument) and of both texts of Binomial. -/
import Derived.Test.YtbcmpgagceomgaaChoose
import Derived.Test.YtbcmpgagceomgaaInB
namespace Go.Proofs.Ytbcmpgagceomgaa
open Go.RowKit

set_option maxHeartbeats 400000 in
theorem within_any (n b : Int) (w : World) (h0 : 0 ≤ b) (h1 : b ≤ 1000000000000) :
    Calls Try.prog 35 #[.int .i64 n, .int .i64 b] w fun e w' => e = .returned (.bool (inB n (-b) b)) ∧ w = w' := by
  by_cases ha : -b ≤ n
  · by_cases hb : n ≤ b
    · rw [inB_mk ha hb]
      go_enter Try.func35, Try.ntmps35
      go_wp2
      go_ret
      exact ⟨rfl, rfl⟩
    · rw [inB_no (by omega)]
      go_enter Try.func35, Try.ntmps35
      go_wp2
      go_ret
      exact ⟨rfl, rfl⟩
  · rw [inB_no (by omega)]
    go_enter Try.func35, Try.ntmps35
    go_wp2
    go_ret
    exact ⟨rfl, rfl⟩

set_option maxHeartbeats 400000 in
theorem l2Argument_any (n : Int) (w : World) :
    Calls Try.prog 31 #[.int .i64 n] w fun e w' => e = .returned (.bool (inB n (-200) 200)) ∧ w = w' := by
  go_enter Try.func31, Try.ntmps31
  go_wp2_with (go_at_call 50; refine (l1In_any _ _ _ _).mono ?_; rintro e w' ⟨rfl, rfl⟩)
  go_ret
  exact ⟨rfl, rfl⟩

set_option maxHeartbeats 400000 in
theorem choose_spec (n : Int) (k : Nat) (w : World) (h1 : -300 ≤ n) (h2 : n ≤ 300) (hk : k ≤ 7) :
    Calls Try.prog 51 #[.int .i64 n, .int .i64 (k : Int)] w fun e w' => e = .returned (.int .i64 (chz n k)) ∧ w = w' := by
  go_enter Try.func51, Try.ntmps51
  go_wp2
  go_loop [5, 6] (fun r i => ∃ j : Nat, j ≤ k ∧ i = .int .i64 j ∧ r = .int .i64 (chz n j)) (fun _ i => k - (intOf i).toNat)
  case atStart => exact ⟨0, Nat.zero_le _, rfl, rfl⟩
  case round =>
    obtain ⟨j, hj, rfl, rfl⟩ := hrel
    by_cases hlt : j < k
    · have hp := chz_prod n h1 h2 j (by omega)
      have hs := chz_small n h1 h2 j (by omega)
      have hd := tdiv_bd (chz n j * (n - (j : Int))) ((j : Int) + 1) _ (by omega) hp.1 hp.2
      go_wp2
      go_round
      case rel => exact ⟨j + 1, by omega, by go_num, rfl⟩
      case measure => simp [intOf]; omega
    · obtain rfl : j = k := by omega
      go_wp2
      go_ret
      exact ⟨rfl, rfl⟩

/-- What Binomial returns. -/
def binomB (n k : Int) : Bool := inB n (-200) 200 && inB k 0 6
def binomV (n k : Int) : Int := if binomB n k = true then chz n k.toNat else 0
theorem binomV_yes {n k : Int} (h : binomB n k = true) : binomV n k = chz n k.toNat := if_pos h
theorem binomV_no {n k : Int} (h : binomB n k = false) : binomV n k = 0 := by unfold binomV; rw [h]; rfl

set_option maxHeartbeats 1000000 in
theorem binomial_impl (n k : Int) (w : World) :
    Calls Try.prog 23 #[.int .i64 n, .int .i64 k] w fun e w' => e = .returned (.tuple #[.int .i64 (binomV n k), .bool (binomB n k)]) ∧ w = w' := by
  cases h1 : inB n (-200) 200
  · have hb : binomB n k = false := by simp [binomB, h1]
    rw [binomV_no hb, hb]
    have H := Lib.hid h1; clear hb h1
    go_enter Try.func23, Try.ntmps23
    go_wp2_with (go_at_call 35; refine (within_any _ _ _ (by decide) (by decide)).mono ?_; rintro e w' ⟨rfl, rfl⟩; rw [H.out])
    go_ret2
    exact ⟨rfl, rfl⟩
  · cases h2 : inB k 0 6
    · have hb : binomB n k = false := by simp [binomB, h1, h2]
      rw [binomV_no hb, hb]
      have h3 := inB_false h2
      have H := Lib.hid h1; clear hb h1 h2
      rcases h3 with h3 | h3
      · go_enter Try.func23, Try.ntmps23
        go_wp2_with (go_at_call 35; refine (within_any _ _ _ (by decide) (by decide)).mono ?_; rintro e w' ⟨rfl, rfl⟩; rw [H.out])
        go_ret2
        exact ⟨rfl, rfl⟩
      · have h4 : ¬ k < 0 := by omega
        go_enter Try.func23, Try.ntmps23
        go_wp2_with (go_at_call 35; refine (within_any _ _ _ (by decide) (by decide)).mono ?_; rintro e w' ⟨rfl, rfl⟩; rw [H.out])
        go_ret2
        exact ⟨rfl, rfl⟩
    · have hb : binomB n k = true := by simp [binomB, h1, h2]
      rw [binomV_yes hb, hb]
      have h3 := inB_true h2
      have h5 := inB_true h1
      have H := Lib.hid h1; clear hb h1 h2
      obtain ⟨j, rfl⟩ := Int.eq_ofNat_of_zero_le h3.1
      have h4 : ¬ (j : Int) < 0 := by omega
      have h6 : ¬ (6 : Int) < (j : Int) := by omega
      go_enter Try.func23, Try.ntmps23
      go_wp2_with (first | (go_at_call 35; refine (within_any _ _ _ (by decide) (by decide)).mono ?_; rintro e w' ⟨rfl, rfl⟩; rw [H.out]) | (go_at_call 49; refine (choose_impl _ _ _ (by omega) (by omega) (by omega)).mono ?_; rintro e w' ⟨rfl, rfl⟩))
      go_ret2
      exact ⟨by simp, rfl⟩

set_option maxHeartbeats 1000000 in
theorem binomial_spec (n k : Int) (w : World) :
    Calls Try.prog 24 #[.int .i64 n, .int .i64 k] w fun e w' => e = .returned (.tuple #[.int .i64 (binomV n k), .bool (binomB n k)]) ∧ w = w' := by
  cases h1 : inB n (-200) 200
  · have hb : binomB n k = false := by simp [binomB, h1]
    rw [binomV_no hb, hb]
    have H := Lib.hid h1; clear hb h1
    go_enter Try.func24, Try.ntmps24
    go_wp2_with (go_at_call 31; refine (l2Argument_any _ _).mono ?_; rintro e w' ⟨rfl, rfl⟩; rw [H.out])
    go_ret2
    exact ⟨rfl, rfl⟩
  · cases h2 : inB k 0 6
    · have hb : binomB n k = false := by simp [binomB, h1, h2]
      rw [binomV_no hb, hb]
      have H := Lib.hid h1; have K := Lib.hid h2; clear hb h1 h2
      go_enter Try.func24, Try.ntmps24
      go_wp2_with (first | (go_at_call 31; refine (l2Argument_any _ _).mono ?_; rintro e w' ⟨rfl, rfl⟩; rw [H.out]) | (go_at_call 50; refine (l1In_any _ _ _ _).mono ?_; rintro e w' ⟨rfl, rfl⟩; rw [K.out]))
      go_ret2
      exact ⟨rfl, rfl⟩
    · have hb : binomB n k = true := by simp [binomB, h1, h2]
      rw [binomV_yes hb, hb]
      have h3 := inB_true h2
      have h5 := inB_true h1
      have H := Lib.hid h1; have K := Lib.hid h2; clear hb h1 h2
      obtain ⟨j, rfl⟩ := Int.eq_ofNat_of_zero_le h3.1
      go_enter Try.func24, Try.ntmps24
      go_wp2_with (first | (go_at_call 31; refine (l2Argument_any _ _).mono ?_; rintro e w' ⟨rfl, rfl⟩; rw [H.out]) | (go_at_call 50; refine (l1In_any _ _ _ _).mono ?_; rintro e w' ⟨rfl, rfl⟩; rw [K.out]) | (go_at_call 51; refine (choose_spec _ _ _ (by omega) (by omega) (by omega)).mono ?_; rintro e w' ⟨rfl, rfl⟩))
      go_ret2
      exact ⟨by simp, rfl⟩
end Go.Proofs.Ytbcmpgagceomgaa
