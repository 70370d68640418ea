/- Opening the source of random numbers; a number out of a list. -/
import Derived.Test.YthhkpghecekoeaaDoorRd
import Derived.Test.YthhkpghecekoeaaDoorRow
namespace Go.Proofs.YthhkpghecekoeaaDoor
open Go.RowKit

theorem RowB.keep {w w' : World} {B : Nat} {A : Option Addr} {m : Nat} (h : RowB w B A m) (hb : Below B w w') : RowB w' B A m := fun k hk => by
  obtain ⟨b, o, c, e, hlt, hc, h1, h2⟩ := h k hk
  exact ⟨b, o, c, e, hlt, by rw [hb.cell (p := ⟨b, o + k, none⟩) hlt]; exact hc, h1, h2⟩
theorem RowB.less {w : World} {B : Nat} {A : Option Addr} {m m' : Nat} (h : RowB w B A m) (hm : m' ≤ m) : RowB w B A m' := fun k hk => h k (by omega)

set_option maxHeartbeats 400000 in
theorem l9Open_any (A : Option Addr) (m c : Nat) (w : World) (hr : RowB w w.heap.size A m) (hc : m ≤ c) (hx : m ≤ 1048576) :
    Calls Tryd.prog 36 #[.slice A m c] w fun e w' => ∃ (m' c' : Nat), e = .returned (.pointer (some ⟨w.heap.size, 0, none⟩)) ∧ m' ≤ 2000 ∧ Blk w' w.heap.size 54 #[.slice A m' c', .int .i64 0] ∧ RowB w' w.heap.size A m' ∧ Below w.heap.size w w' := by
  have R := Lib.hid hr; clear hr
  by_cases h : (2000 : Int) < (m : Int)
  · have h1 : 2000 ≤ c := by omega
    obtain ⟨b, o, x, rfl, _⟩ := R.out 0 (by omega)
    go_enter Tryd.func36, Tryd.ntmps36
    go_wp2_with fail
    go_ret
    exact ⟨2000, _, rfl, by omega, Blk.new _ _ _, (R.out.less (by omega)).keep ((Below.refl _ _).alloc (Nat.le_refl _) _), (Below.refl _ _).alloc (Nat.le_refl _) _⟩
  · go_enter Tryd.func36, Tryd.ntmps36
    go_wp2_with fail
    go_ret
    exact ⟨rfl, m, by omega, ⟨c, Blk.new _ _ _⟩, R.out.keep ((Below.refl _ _).alloc (Nat.le_refl _) _), (Below.refl _ _).alloc (Nat.le_refl _) _⟩
end Go.Proofs.YthhkpghecekoeaaDoor
