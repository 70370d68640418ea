/- The walks of the tests on numbers (within, l1In, l2Argument) and of both texts of Binomial. -/
import Derived.Test.YthjadabaojcmoaaChoose
import Derived.Test.YthjadabaojcmoaaInB
namespace Go.Proofs.Ythjadabaojcmoaa
open Go.RowKit

set_option maxHeartbeats 400000 in
theorem within_any (n b : Int) (w : World) (h0 : 0 ≤ b) (h1 : b ≤ 1000000000000) :
    Calls Try.prog 48 #[.int .i64 n, .int .i64 b] w fun e w' => e = .returned (.bool (inB n (-b) b)) ∧ w = w' := by
  by_cases ha : -b ≤ n
  · by_cases hb : n ≤ b
    · rw [inB_mk ha hb]
      go_enter Try.func48, Try.ntmps48
      go_wp2
      go_ret
      exact ⟨rfl, rfl⟩
    · rw [inB_no (by omega)]
      go_enter Try.func48, Try.ntmps48
      go_wp2
      go_ret
      exact ⟨rfl, rfl⟩
  · rw [inB_no (by omega)]
    go_enter Try.func48, Try.ntmps48
    go_wp2
    go_ret
    exact ⟨rfl, rfl⟩

set_option maxHeartbeats 400000 in
theorem l2Argument_any (n : Int) (w : World) :
    Calls Try.prog 46 #[.int .i64 n] w fun e w' => e = .returned (.bool (inB n (-200) 200)) ∧ w = w' := by
  go_enter Try.func46, Try.ntmps46
  go_wp2_with (go_at_call 51; refine (l1In_any _ _ _ _).mono ?_; rintro e w' ⟨rfl, rfl⟩)
  go_ret
  exact ⟨rfl, rfl⟩

set_option maxHeartbeats 400000 in
theorem choose_spec (n : Int) (k : Nat) (w : World) (h1 : -300 ≤ n) (h2 : n ≤ 300) (hk : k ≤ 7) :
    Calls Try.prog 67 #[.int .i64 n, .int .i64 (k : Int)] w fun e w' => e = .returned (.int .i64 (chz n k)) ∧ w = w' := by
  go_enter Try.func67, Try.ntmps67
  go_wp2
  go_loop [5, 6] (fun r i => ∃ j : Nat, j ≤ k ∧ i = .int .i64 j ∧ r = .int .i64 (chz n j)) (fun _ i => k - (intOf i).toNat)
  case atStart => exact ⟨0, Nat.zero_le _, rfl, rfl⟩
  case round =>
    obtain ⟨j, hj, rfl, rfl⟩ := hrel
    by_cases hlt : j < k
    · have hp := chz_prod n h1 h2 j (by omega)
      have hs := chz_small n h1 h2 j (by omega)
      have hd := tdiv_bd (chz n j * (n - (j : Int))) ((j : Int) + 1) _ (by omega) hp.1 hp.2
      go_wp2
      go_round
      case rel => exact ⟨j + 1, by omega, by go_num, rfl⟩
      case measure => simp [intOf]; omega
    · obtain rfl : j = k := by omega
      go_wp2
      go_ret
      exact ⟨rfl, rfl⟩

/-- What Binomial returns. -/
def binomB (n k : Int) : Bool := inB n (-200) 200 && inB k 0 6
def binomV (n k : Int) : Int := if binomB n k = true then chz n k.toNat else 0
theorem binomV_yes {n k : Int} (h : binomB n k = true) : binomV n k = chz n k.toNat := if_pos h
theorem binomV_no {n k : Int} (h : binomB n k = false) : binomV n k = 0 := by unfold binomV; rw [h]; rfl