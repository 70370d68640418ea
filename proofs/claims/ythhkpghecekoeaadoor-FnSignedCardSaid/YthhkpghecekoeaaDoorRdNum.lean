/- A number out of a list, and an argument that is drawn. -/
import Derived.Test.YthhkpghecekoeaaDoorRdOpen
namespace Go.Proofs.YthhkpghecekoeaaDoor
open Go.RowKit

set_option maxHeartbeats 400000 in
theorem num_any (g : Nat) (A : Option Addr) (m c : Nat) (p : Int) (w : World) (hb : Blk w g 54 #[.slice A m c, .int .i64 p]) (hr : RowB w g A m) (hm : m ≤ 2000) (p0 : 0 ≤ p) (p1 : p ≤ 1000000)
    (b o n cap : Nat) (xs : List Int) (hx : Row w w.heap.size (some ⟨b, o, none⟩) xs) (hbg : b ≠ g) (hn : n = xs.length) (n1 : 1 ≤ n) (n2 : n ≤ 1000) :
    Calls Tryd.prog 48 #[.pointer (some ⟨g, 0, none⟩), .slice (some ⟨b, o, none⟩) n cap] w fun e w' => ∃ x, (e = .returned (.int .i64 x) ∧ x ∈ xs) ∧ Blk w' g 54 #[.slice A m c, .int .i64 (p + 1)] ∧ Turned g w w' := by
  have C := Lib.hid (pick_any g A m c p (n : Int) w hb hr hm p0 p1 (by omega) (by omega))
  have X := Lib.hid hx; have N := Lib.hid hn; clear hb hr hx hn
  go_enter Tryd.func48, Tryd.ntmps48
  go_wp2_with fail
  refine C.out.mono ?_
  rintro e w1 ⟨z, rfl, z0, z1, hb1, ht⟩
  obtain ⟨q, rfl⟩ := Int.eq_ofNat_of_zero_le z0
  have hq : q < xs.length := by have := N.out; omega
  have hq2 : q < n := by omega
  obtain ⟨b', o', e', _, hc⟩ := X.out q hq
  simp only [Option.some.injEq, Addr.mk.injEq, and_true] at e'
  obtain ⟨rfl, rfl⟩ := e'
  have hc1 : w1.cell? ⟨b, o + q, none⟩ = some (.int .i64 xs[q]) := by
    rw [← hc]
    exact World.cell?_of_block (w := w) (ht.block b hbg)
  have HX := Lib.hid (List.getElem_mem hq)
  have HB := Lib.hid hb1; have T := Lib.hid ht; clear hb1 ht hc
  generalize xs[q] = x at *
  go_wp2_with fail
  go_ret
  exact ⟨x, ⟨rfl, HX.out⟩, HB.out, T.out⟩
end Go.Proofs.YthhkpghecekoeaaDoor
