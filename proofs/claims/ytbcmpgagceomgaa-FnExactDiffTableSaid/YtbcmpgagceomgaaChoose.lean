/- The walks of the two functions that compute a binomial coefficient, and of the tests on numbers beside them. -/
import Derived.Test.YtbcmpgagceomgaaBase
import Derived.Test.YtbcmpgagceomgaaChoosePlain
namespace Go.Proofs.Ytbcmpgagceomgaa
open Go.RowKit

set_option maxHeartbeats 400000 in
theorem choose_impl (n : Int) (k : Nat) (w : World) (h1 : -300 ≤ n) (h2 : n ≤ 300) (hk : k ≤ 7) :
    Calls Try.prog 49 #[.int .i64 n, .int .i64 (k : Int)] w fun e w' => e = .returned (.int .i64 (chz n k)) ∧ w = w' := by
  go_enter Try.func49, Try.ntmps49
  go_wp2
  go_loop [5, 8] (fun r i => ∃ j : Nat, j ≤ k ∧ i = .int .i64 j ∧ r = .int .i64 (chz n j)) (fun _ i => k - (intOf i).toNat)
  case atStart => exact ⟨0, Nat.zero_le _, rfl, rfl⟩
  case round =>
    obtain ⟨j, hj, rfl, rfl⟩ := hrel
    by_cases hlt : j < k
    · have hp := chz_prod n h1 h2 j (by omega)
      have hs := chz_small n h1 h2 j (by omega)
      have hd := tdiv_bd (chz n j * (n - (j : Int))) ((j : Int) + 1) _ (by omega) hp.1 hp.2
      go_wp2
      go_round
      case rel => exact ⟨j + 1, by omega, by go_num, rfl⟩
      case measure => simp [intOf]; omega
    · obtain rfl : j = k := by omega
      go_wp2
      go_ret
      exact ⟨rfl, rfl⟩
end Go.Proofs.Ytbcmpgagceomgaa
