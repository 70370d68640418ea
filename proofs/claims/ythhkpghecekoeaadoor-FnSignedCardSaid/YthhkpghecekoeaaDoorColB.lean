/- The walks of both texts of powers of ten, remainders, and of what shows a number as a column. -/
import Derived.Test.YthhkpghecekoeaaDoorColA
namespace Go.Proofs.YthhkpghecekoeaaDoor
open Go.RowKit

set_option maxHeartbeats 400000 in
theorem powerOfTen_any (k : Nat) (w : World) (hk : k ≤ 12) :
    Calls Tryd.prog 24 #[.int .i64 (k : Int)] w fun e w' => e = .returned (.int .i64 (p10 k)) ∧ w = w' := by
  go_enter Tryd.func24, Tryd.ntmps24
  go_wp2
  go_loop [3, 5] (fun r i => ∃ j : Nat, j ≤ k ∧ i = .int .i64 j ∧ r = .int .i64 (p10 j)) (fun _ i => k - (intOf i).toNat)
  case atStart => exact ⟨0, Nat.zero_le _, rfl, rfl⟩
  case round =>
    obtain ⟨j, hj, rfl, rfl⟩ := hrel
    have h1 := p10_pos j
    have h2 := p10_big (show j ≤ 12 by omega)
    by_cases hlt : j < k
    · have HS := Lib.hid (p10_succ j)
      go_wp2
      go_round
      case rel => exact ⟨j + 1, by omega, by go_num, by rw [HS.out]⟩
      case measure => simp [intOf]; omega
    · obtain rfl : j = k := by omega
      go_wp2
      go_ret
      exact ⟨rfl, rfl⟩

set_option maxHeartbeats 400000 in
theorem l1Ten_any (k : Nat) (w : World) (hk : k ≤ 12) :
    Calls Tryd.prog 34 #[.int .i64 (k : Int)] w fun e w' => e = .returned (.int .i64 (p10 k)) ∧ w = w' := by
  go_enter Tryd.func34, Tryd.ntmps34
  go_wp2
  go_loop [3, 4] (fun r i => ∃ j : Nat, j ≤ k ∧ i = .int .i64 j ∧ r = .int .i64 (p10 j)) (fun _ i => k - (intOf i).toNat)
  case atStart => exact ⟨0, Nat.zero_le _, rfl, rfl⟩
  case round =>
    obtain ⟨j, hj, rfl, rfl⟩ := hrel
    have h1 := p10_pos j
    have h2 := p10_big (show j ≤ 12 by omega)
    by_cases hlt : j < k
    · have HS := Lib.hid (p10_succ j)
      go_wp2
      go_round
      case rel => exact ⟨j + 1, by omega, by go_num, by rw [HS.out]⟩
      case measure => simp [intOf]; omega
    · obtain rfl : j = k := by omega
      go_wp2
      go_ret
      exact ⟨rfl, rfl⟩
end Go.Proofs.YthhkpghecekoeaaDoor
