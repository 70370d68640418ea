/- An argument that is drawn. -/
import Derived.Test.YtbcmpgagceomgaaRdNum
import Derived.Test.YtbcmpgagceomgaaApp
namespace Go.Proofs.Ytbcmpgagceomgaa
open Go.RowKit

theorem Blk.row' {w : World} {g : Nat} {t : TypeId} {xs : List Int} (h : Blk w g t (cI xs)) : Row w w.heap.size (some ⟨g, 0, none⟩) xs :=
  fun k hk => ⟨g, 0, rfl, h.lt, by rw [Nat.zero_add]; exact cI_cell h hk⟩

set_option maxHeartbeats 400000 in
theorem l2Number_any (g : Nat) (A : Option Addr) (m c : Nat) (p : Int) (w : World) (hb : Blk w g 58 #[.slice A m c, .int .i64 p]) (hr : RowB w g A m) (hm : m ≤ 2000) (p0 : 0 ≤ p) (p1 : p ≤ 1000) :
    Calls Try.prog 46 #[.pointer (some ⟨g, 0, none⟩)] w fun e w' => ∃ x p', (e = .returned (.int .i64 x) ∧ -9223372036854775808 ≤ x ∧ x ≤ 9223372036854775807) ∧ (0 ≤ p' ∧ p' ≤ p + 2 ∧ Blk w' g 58 #[.slice A m c, .int .i64 p']) ∧ Below g w w' := by
  have C := Lib.hid (pick_any g A m c p 12 w hb hr hm p0 (by omega) (by decide) (by decide))
  go_enter Try.func46, Try.ntmps46
  go_wp2_with fail
  refine C.out.mono ?_
  rintro e w1 ⟨z, rfl, z0, z1, hb1, ht⟩
  have hr1 := hr.keep ht.below
  have hgw := hb1.lt
  by_cases hz : z = 0
  · subst hz
    have hb2 := hb1.keep (w' := w1.alloc (.cells (cI [200, 201, -200, -201, 9223372036854775807, -9223372036854775808]) 3)) ((Below.refl w1.heap.size w1).alloc (Nat.le_refl _) _) hgw
    have C2 := Lib.hid (num_any g A m c (p + 1) _ hb2 (hr1.keep ((Below.refl g w1).alloc (by omega) _)) hm (by omega) (by omega) w1.heap.size 0 6 6 _ (Blk.row' (Blk.new w1 3 (cI [200, 201, -200, -201, 9223372036854775807, -9223372036854775808]))) (by omega) rfl (by decide) (by decide))
    have T := Lib.hid ht; clear hb1 hb2 hr1 ht hb hr
    go_wp2_with fail
    refine C2.out.mono ?_
    rintro e w2 ⟨x, ⟨rfl, hx⟩, hb2, ht2⟩
    have hx2 : -9223372036854775808 ≤ x ∧ x ≤ 9223372036854775807 := by
      simp at hx
      omega
    have V := Lib.hid ((T.out.below.alloc (by omega) (.cells (cI [200, 201, -200, -201, 9223372036854775807, -9223372036854775808]) 3)).trans ht2.below)
    have HB := Lib.hid hb2; clear hb2 ht2 hx
    go_wp2_with fail
    go_ret
    exact ⟨x, p + 1 + 1, ⟨rfl, hx2.1, hx2.2⟩, ⟨by omega, by omega, HB.out⟩, V.out⟩
  · have hzb : (z == 0) = false := by simp [hz]
    have C2 := Lib.hid (pick_any g A m c (p + 1) 60 w1 hb1 hr1 hm (by omega) (by omega) (by decide) (by decide))
    have T := Lib.hid ht; clear hb1 hr1 ht hb hr
    go_wp2_with fail
    refine C2.out.mono ?_
    rintro e w2 ⟨x, rfl, a0, a1, hb2, ht2⟩
    have V := Lib.hid (T.out.below.trans ht2.below)
    have HB := Lib.hid hb2; clear hb2 ht2
    go_wp2_with fail
    go_ret
    exact ⟨x - 20, p + 1 + 1, ⟨rfl, by omega, by omega⟩, ⟨by omega, by omega, HB.out⟩, V.out⟩
end Go.Proofs.Ytbcmpgagceomgaa
