/- The arguments of Binomial that are drawn. -/
import Derived.Test.YtbcmpgagceomgaaRdNumber
namespace Go.Proofs.Ytbcmpgagceomgaa
open Go.RowKit

set_option maxHeartbeats 1000000 in
theorem drawBinomial_any (A : Option Addr) (m c : Nat) (w : World) (hr : RowB w w.heap.size A m) (hc : m ≤ c) (hx : m ≤ 1048576) :
    Calls Try.prog 22 #[.slice A m c] w fun e w' => ∃ x k, (e = .returned (.tuple #[.int .i64 x, .int .i64 k]) ∧ (-9223372036854775808 ≤ x ∧ x ≤ 9223372036854775807) ∧ -1 ≤ k ∧ k ≤ 9223372036854775807) ∧ Below w.heap.size w w' := by
  have C := Lib.hid (l9Open_any A m c w hr hc hx)
  clear hr
  go_enter Try.func22, Try.ntmps22
  go_wp2_with fail
  refine C.out.mono ?_
  rintro e w1 ⟨m1, c1, rfl, m2, hb1, hr1, bl1⟩
  have C1 := Lib.hid (l2Number_any w.heap.size A m1 c1 0 w1 hb1 hr1 m2 (by decide) (by decide))
  have B1 := Lib.hid bl1; have R1 := Lib.hid hr1; clear hb1 bl1 hr1
  go_wp2_with fail
  refine C1.out.mono ?_
  rintro e w2 ⟨x, p2, ⟨rfl, x0, x1⟩, ⟨p20, p21, hb2⟩, bl2⟩
  have C2 := Lib.hid (pick_any w.heap.size A m1 c1 p2 7 w2 hb2 (R1.out.keep bl2) m2 p20 (by omega) (by decide) (by decide))
  have B2 := Lib.hid (B1.out.trans bl2); have R2 := Lib.hid (R1.out.keep bl2); clear hb2 bl2
  go_wp2_with fail
  refine C2.out.mono ?_
  rintro e w3 ⟨k, rfl, k0, k1, hb3, ht3⟩
  have C3 := Lib.hid (pick_any w.heap.size A m1 c1 (p2 + 1) 12 w3 hb3 (R2.out.keep ht3.below) m2 (by omega) (by omega) (by decide) (by decide))
  have B3 := Lib.hid (B2.out.trans ht3.below); have R3 := Lib.hid (R2.out.keep ht3.below); clear hb3 ht3
  go_wp2_with fail
  refine C3.out.mono ?_
  rintro e w4 ⟨z, rfl, z0, z1, hb4, ht4⟩
  have B4 := Lib.hid (B3.out.trans ht4.below); have R4 := Lib.hid (R3.out.keep ht4.below)
  have hgw := hb4.lt
  by_cases hz : z = 0
  · subst hz
    have hb5 := hb4.keep (w' := w4.alloc (.cells (cI [-1, 7, 9223372036854775807]) 3)) ((Below.refl w4.heap.size w4).alloc (Nat.le_refl _) _) hgw
    have C4 := Lib.hid (num_any w.heap.size A m1 c1 (p2 + 1 + 1) _ hb5 (R4.out.keep ((Below.refl w.heap.size w4).alloc (by omega) _)) m2 (by omega) (by omega) w4.heap.size 0 3 3 _ (Blk.row' (Blk.new w4 3 (cI [-1, 7, 9223372036854775807]))) (by omega) rfl (by decide) (by decide))
    clear hb4 ht4 hb5
    go_wp2_with fail
    refine C4.out.mono ?_
    rintro e w5 ⟨y, ⟨rfl, hy⟩, hb6, ht6⟩
    have hy2 : -1 ≤ y ∧ y ≤ 9223372036854775807 := by
      simp at hy
      omega
    have V := Lib.hid ((B4.out.alloc (by omega) (.cells (cI [-1, 7, 9223372036854775807]) 3)).trans ht6.below)
    clear hb6 ht6 hy
    go_wp2_with fail
    go_ret2
    exact ⟨x, y, ⟨rfl, ⟨x0, x1⟩, hy2⟩, V.out⟩
  · have hzb : (z == 0) = false := by simp [hz]
    clear hb4 ht4
    go_wp2_with fail
    go_ret2
    exact ⟨x, k, ⟨rfl, ⟨x0, x1⟩, by omega, by omega⟩, B4.out⟩
end Go.Proofs.Ytbcmpgagceomgaa
