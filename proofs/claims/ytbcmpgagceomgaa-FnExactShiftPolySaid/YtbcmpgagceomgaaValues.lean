/- The walks of both texts of ValuesOf, and of the reference's list of values. -/
import Derived.Test.YtbcmpgagceomgaaScale
namespace Go.Proofs.Ytbcmpgagceomgaa
open Go.RowKit

/-- The values at z, z + 1 and so on, m of them. -/
def valsL (xs : List Int) (z : Int) (m : Nat) : List Int := (List.range m).map fun i : Nat => evZ xs (z + (i : Int))
theorem valsL_length (xs : List Int) (z : Int) (m : Nat) : (valsL xs z m).length = m := by simp [valsL]
theorem valsL_at {xs : List Int} {z : Int} {m j : Nat} (h : j < (valsL xs z m).length) : (valsL xs z m)[j] = evZ xs (z + (j : Int)) := by
  simp [valsL]
theorem take_push {L : List Int} {k : Nat} {x : Int} (h : k < L.length) (hx : L[k] = x) : L.take k ++ [x] = L.take (k + 1) := by
  rw [List.take_succ_eq_append_getElem h, hx]

set_option maxHeartbeats 2000000 in
theorem l2Values_any (A : Option Addr) (n cap : Nat) (xs : List Int) (z : Int) (m : Nat) (w : World) (hr : Row w w.heap.size A xs) (hn : n = xs.length) (h7 : n ≤ 7) (hb : ∀ x ∈ xs, -100000 ≤ x ∧ x ≤ 100000) (z1 : -200 ≤ z) (z2 : z + m ≤ 207) (hm : m ≤ 100) :
    Calls Try.prog 33 #[.slice A n cap, .int .i64 z, .int .i64 1, .int .i64 (m : Int)] w (Gives w (valsL xs z m)) := by
  have hsl : (valsL xs z m).length = m := valsL_length xs z m
  have HB := Lib.hid hb; have L := Lib.hid hsl; have N := Lib.hid hn; have R := Lib.hid hr; clear hn hr hsl hb
  go_enter Try.func33, Try.ntmps33
  go_wp2_with fail
  go_loopw [9, 10] (fun v i wr => ∃ (k : Nat) (A1 : Option Addr) (c1 : Nat), k ≤ m ∧ i = .int .i64 k ∧ v = .slice A1 k c1 ∧ Own wr w.heap.size wr.heap.size (.slice A1 k c1) ((valsL xs z m).take k) ∧ Below w.heap.size w wr) (fun _ i _ => m - (intOf i).toNat)
  case atStart => exact ⟨0, _, _, Nat.zero_le _, rfl, rfl, Own.empty w, (Below.refl _ _).alloc (Nat.le_refl _) _⟩
  case round =>
    obtain ⟨k, A1, c1, hk, rfl, rfl, ho, hw⟩ := hrel
    by_cases hlt : k < m
    · have hls : k < (valsL xs z m).length := by rw [L.out]; exact hlt
      have tk := take_push hls (valsL_at hls)
      have lk : k = ((valsL xs z m).take k).length := by rw [List.length_take, L.out]; omega
      have zb1 : -206 ≤ z + (k : Int) := by omega
      have zb2 : z + (k : Int) ≤ 206 := by omega
      have O := Lib.hid ho; have V := Lib.hid hw; have TK := Lib.hid tk; have LK := Lib.hid lk; clear ho hw tk lk
      go_wp2_with fail
      refine (l2Eval_any _ _ _ xs _ _ (R.out.keep V.out |>.more V.out.size) N.out h7 HB.out zb1 zb2).mono ?_
      rintro e w1 ⟨rfl, q, hq⟩
      have ww : Below wr.heap.size wr w1 := by subst hq; exact below_drewN (Below.refl _ _) _
      generalize evZ xs (z + (k : Int)) = x at *
      have wa : Below wr.heap.size wr (w1.alloc (.cells #[.int .i64 x] 3)) := ww.alloc ww.size _
      have O1 := Lib.hid (O.out.below wa (Nat.le_refl _)); have V1 := Lib.hid (V.out.trans (wa.mono V.out.size)); clear hq wa ww
      go_wp2_with (at_builtin; refine wpList_app rfl _ _ rfl rfl O1.out V1.out.size rfl rfl (Row.single w1 x 3) (by have := LK.out; simp; omega) (k + 1) (by rw [← LK.out]; rfl) ?_; intro A3 c3 w3 ho3 hg3; have O3 := Lib.hid ho3; have V3 := Lib.hid (below_grown V1.out hg3 O1.out V1.out.size (Nat.le_refl _)); clear ho3 hg3)
      go_roundw
      case rel => exact ⟨k + 1, _, _, by omega, by go_num, rfl, by have h := O3.out; rw [TK.out] at h; exact h, V3.out⟩
      case measure => simp [intOf] <;> omega
    · obtain rfl : k = m := by omega
      rw [List.take_of_length_le (by rw [L.out]; exact Nat.le_refl _)] at ho
      have O := Lib.hid ho; have V := Lib.hid hw; clear ho hw
      go_wp2_with fail
      go_ret
      exact Gives.mk rfl L.out.symm O.out V.out

/-- What ValuesOf returns. -/
def voA (xs : List Int) (z m : Int) : Bool := polyB xs && (inB z (-200) 200 && inB m 0 60)
def voB (xs : List Int) (z m : Int) : Bool := voA xs z m && decide (z + m - 1 ≤ 200)
def voP (xs : List Int) (z m : Int) : List Int := if voB xs z m = true then valsL xs z m.toNat else []
theorem vo_no {xs : List Int} {z m : Int} (h : voB xs z m = false) : voP xs z m = [] := by unfold voP; rw [h]; rfl
theorem vo_yes {xs : List Int} {z m : Int} (h : voB xs z m = true) : voP xs z m = valsL xs z m.toNat := if_pos h
theorem voP_length (xs : List Int) (z m : Int) : (voP xs z m).length ≤ 60 := by
  cases h : voB xs z m
  · rw [vo_no h]; decide
  · rw [vo_yes h, valsL_length]
    unfold voB voA at h
    have h2 := (Bool.and_eq_true_iff.1 (Bool.and_eq_true_iff.1 (Bool.and_eq_true_iff.1 h).1).2).2
    have := inB_true h2
    omega