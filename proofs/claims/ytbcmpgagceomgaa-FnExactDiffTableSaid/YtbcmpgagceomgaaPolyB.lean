/- The walks of DifferencePoly (the program's), of both texts of TrimPoly, DegreeOf and EvalPoly. -/
import Derived.Test.YtbcmpgagceomgaaPolyA
namespace Go.Proofs.Ytbcmpgagceomgaa
open Go.RowKit

set_option maxHeartbeats 1000000 in
theorem diffPoly_impl (A : Option Addr) (n cap : Nat) (xs : List Int) (w : World) (hr : Row w w.heap.size A xs) (hn : n = xs.length) (hc : n ≤ cap) (hx : n ≤ 10000000) :
    Calls Try.prog 29 #[.slice A n cap] w (Gives w (diffP xs)) := by
  cases h : polyB xs
  · rw [show diffP xs = [] by unfold diffP; rw [h]; rfl]
    have N := Lib.hid hn; have R := Lib.hid hr; have H := Lib.hid h; clear hn hr h
    go_enter Try.func29, Try.ntmps29
    go_wp2_with (go_at_call 34; refine (pvI _ _ _ xs _ _ R.out N.out hx).mono ?_; rintro e w' ⟨rfl, rfl⟩; rw [H.out])
    go_ret
    exact ⟨_, _, rfl, Own.none_ _ _ _, Below.refl _ _⟩
  · have hl := poly_len h
    by_cases h1 : n = 1
    · subst h1
      rw [show diffP xs = [0] by unfold diffP; rw [if_pos h, if_pos hn.symm]]
      have N := Lib.hid hn; have R := Lib.hid hr; have H := Lib.hid h; clear hn hr h
      go_enter Try.func29, Try.ntmps29
      go_wp2_with (go_at_call 34; refine (pvI _ _ _ xs _ _ R.out N.out hx).mono ?_; rintro e w' ⟨rfl, rfl⟩; rw [H.out])
      go_ret
      exact Gives.mk (xs := [0]) rfl rfl (Own.one w 0) ((Below.refl _ _).alloc (Nat.le_refl _) _)
    · rw [show diffP xs = xs.drop 1 by unfold diffP; rw [if_pos h, if_neg (by omega)]]
      obtain ⟨b, o, rfl⟩ := poly_addr hr hl.1
      have hn1 : ((n : Int) == 1) = false := by simp; omega
      have hcap : ¬ cap = 1 := by omega
      have h1n : 1 ≤ n := by omega
      have hr2 := hr.cut (k := 1)
      have N := Lib.hid hn; have R := Lib.hid hr; have R2 := Lib.hid hr2; have H := Lib.hid h; clear hn hr hr2 h
      go_enter Try.func29, Try.ntmps29
      go_wp2_with (first | (go_at_call 34; refine (pvI _ _ _ xs _ _ R.out N.out hx).mono ?_; rintro e w' ⟨rfl, rfl⟩; rw [H.out]) | (go_at_call 41; refine (clone_any _ _ _ _ (xs.drop 1) _ _ R2.out (Nat.le_refl _) (by have := N.out; simp; omega) (by omega)).mono ?_; rintro e w2 hg; obtain ⟨A2, c2, rfl, o2, b2⟩ := hg.len (n - 1) (by have := N.out; simp; omega); have O2 := Lib.hid o2; have B2 := Lib.hid b2; clear o2 b2))
      go_ret
      exact Gives.mk rfl (by have := N.out; simp; omega) O2.out B2.out

/-- The length without the zeros at the end, but at least one. -/
def trimK (xs : List Int) : Nat → Nat
  | 0 => 1
  | j + 1 => if xs.getD (j + 1) 0 = 0 then trimK xs j else j + 2
theorem trimK_zero (xs : List Int) : trimK xs 0 = 1 := rfl
theorem trimK_cut {xs : List Int} {j : Nat} (h : j + 1 < xs.length) (h0 : xs[j + 1] = 0) : trimK xs (j + 1) = trimK xs j := by
  rw [trimK, if_pos (by rw [List.getD_eq_getElem?_getD, List.getElem?_eq_getElem h]; exact h0)]
theorem trimK_stop {xs : List Int} {j : Nat} (h : j + 1 < xs.length) (h0 : xs[j + 1] ≠ 0) : trimK xs (j + 1) = j + 2 := by
  rw [trimK, if_neg (by rw [List.getD_eq_getElem?_getD, List.getElem?_eq_getElem h]; exact h0)]
theorem trimK_bd (xs : List Int) (j : Nat) : 1 ≤ trimK xs j ∧ trimK xs j ≤ j + 1 := by
  induction j with
  | zero => simp [trimK]
  | succ j ih => rw [trimK]; split <;> omega
def trimN (xs : List Int) : Nat := trimK xs (xs.length - 1)
def trimW (xs : List Int) : List Int := xs.take (trimN xs)
def trimP (xs : List Int) : List Int := if polyB xs = true then trimW xs else []
theorem trimN_bd {xs : List Int} (h : 1 ≤ xs.length) : 1 ≤ trimN xs ∧ trimN xs ≤ xs.length := by
  have := trimK_bd xs (xs.length - 1); unfold trimN; omega
theorem trimW_length {xs : List Int} (h : 1 ≤ xs.length) : (trimW xs).length = trimN xs := by
  have := trimN_bd h; unfold trimW; rw [List.length_take]; omega

theorem trimP_length (xs : List Int) : (trimP xs).length ≤ 7 := by
  unfold trimP
  split
  · rename_i h
    have := poly_len h
    have h2 := trimN_bd this.1
    rw [trimW_length this.1]; omega
  · decide
end Go.Proofs.Ytbcmpgagceomgaa
