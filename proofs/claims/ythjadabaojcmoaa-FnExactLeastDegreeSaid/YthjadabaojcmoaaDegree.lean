/- The walks of both texts of DegreeOf. -/
import Derived.Test.YthjadabaojcmoaaPolyB
namespace Go.Proofs.Ythjadabaojcmoaa
open Go.RowKit

theorem trimK_one (xs : List Int) (j : Nat) : trimK xs j = 1 ↔ ∀ i, 1 ≤ i → i ≤ j → xs.getD i 0 = 0 := by
  induction j with
  | zero => exact ⟨fun _ i h1 h2 => by omega, fun _ => rfl⟩
  | succ j ih =>
    rw [trimK]
    split
    · rename_i h0
      rw [ih]
      constructor
      · intro h i h1 h2
        rcases Nat.lt_or_ge i (j + 1) with h3 | h3
        · exact h i h1 (by omega)
        · rw [show i = j + 1 by omega]; exact h0
      · intro h i h1 h2
        exact h i h1 (by omega)
    · rename_i h0
      constructor
      · intro h; omega
      · intro h; exact absurd (h (j + 1) (by omega) (Nat.le_refl _)) h0
theorem all0_iff {xs : List Int} (h1 : 1 ≤ xs.length) : allB xs 0 = true ↔ trimN xs = 1 ∧ xs[0] = 0 := by
  rw [allB_iff]
  unfold trimN
  rw [trimK_one]
  constructor
  · intro h
    refine ⟨fun i hi1 hi2 => ?_, ?_⟩
    · have := h xs[i] (List.getElem_mem (by omega))
      rw [List.getD_eq_getElem?_getD, List.getElem?_eq_getElem (by omega)]
      show xs[i] = 0
      omega
    · have := h xs[0] (List.getElem_mem (by omega)); omega
  · rintro ⟨h, h0⟩ x hx
    obtain ⟨i, hi, rfl⟩ := List.getElem_of_mem hx
    rcases Nat.eq_zero_or_pos i with rfl | hp
    · rw [h0]; omega
    · have := h i hp (by omega)
      rw [List.getD_eq_getElem?_getD, List.getElem?_eq_getElem hi] at this
      have e : xs[i] = 0 := this
      rw [e]; omega

/-- What DegreeOf returns. -/
def degP (xs : List Int) : Int := if polyB xs = true then (if allB xs 0 = true then -1 else (trimN xs : Int) - 1) else -2
theorem degP_no {xs : List Int} (h : polyB xs = false) : degP xs = -2 := by unfold degP; rw [h]; rfl
theorem degP_zero {xs : List Int} (h : polyB xs = true) (h2 : allB xs 0 = true) : degP xs = -1 := by unfold degP; rw [if_pos h, if_pos h2]
theorem degP_yes {xs : List Int} (h : polyB xs = true) (h2 : allB xs 0 = false) : degP xs = (trimN xs : Int) - 1 := by unfold degP; rw [if_pos h, h2]; rfl

set_option maxHeartbeats 400000 in
theorem allZero_any (A : Option Addr) (n cap : Nat) (xs : List Int) (w : World) (B : Nat) (hr : Row w B A xs) (hn : n = xs.length) (hx : n ≤ 10000000) :
    Calls Try.prog 53 #[.slice A n cap] w fun e w' => e = .returned (.bool (allB xs 0)) ∧ w = w' := by
  subst hn
  have R := Lib.hid hr; clear hr
  go_enter Try.func53, Try.ntmps53
  go_wp2_with (go_at_call 66; refine (allWithin_any _ _ xs _ _ _ R.out (by omega) (by decide) (by decide)).mono ?_; rintro e w' ⟨rfl, rfl⟩)
  go_ret
  exact ⟨rfl, rfl⟩

set_option maxHeartbeats 1000000 in
theorem degreeOf_impl (A : Option Addr) (n cap : Nat) (xs : List Int) (w : World) (hr : Row w w.heap.size A xs) (hn : n = xs.length) (hc : n ≤ cap) (hx : n ≤ 10000000) :
    Calls Try.prog 28 #[.slice A n cap] w fun e w' => e = .returned (.int .i64 (degP xs)) ∧ Below w.heap.size w w' := by
  cases h : polyB xs
  · rw [degP_no h]
    have N := Lib.hid hn; have R := Lib.hid hr; have H := Lib.hid h; clear hn hr h
    go_enter Try.func28, Try.ntmps28
    go_wp2_with (go_at_call 44; refine (pvI _ _ _ xs _ _ R.out N.out hx).mono ?_; rintro e w' ⟨rfl, rfl⟩; rw [H.out])
    go_ret
    exact ⟨rfl, Below.refl _ _⟩
  · cases h2 : allB xs 0
    · rw [degP_yes h h2]
      have hl := poly_len h
      have hb := trimN_bd hl.1
      obtain ⟨k, hk⟩ : ∃ k, k = trimN xs := ⟨_, rfl⟩
      have hT : trimP xs = trimW xs := if_pos h
      have hkl : k = (trimP xs).length := by rw [hT, trimW_length hl.1, hk]
      rw [← hk] at hb ⊢
      have K := Lib.hid hkl; have N := Lib.hid hn; have R := Lib.hid hr; have H := Lib.hid h; have H2 := Lib.hid h2; clear hn hr h h2 hk hT hkl
      go_enter Try.func28, Try.ntmps28
      go_wp2_with (first | (go_at_call 44; refine (pvI _ _ _ xs _ _ R.out N.out hx).mono ?_; rintro e w' ⟨rfl, rfl⟩; rw [H.out]) | (go_at_call 53; refine (allZero_any _ _ _ xs _ _ R.out N.out hx).mono ?_; rintro e w' ⟨rfl, rfl⟩; rw [H2.out]) | (go_at_call 30; refine (trimPoly_impl _ _ _ xs _ R.out N.out hc hx).mono ?_; rintro e w2 hg; obtain ⟨A2, c2, rfl, o2, b2⟩ := hg.len k K.out; have B2 := Lib.hid b2; clear hg o2 b2))
      go_ret
      exact ⟨rfl, B2.out⟩
    · rw [degP_zero h h2]
      have N := Lib.hid hn; have R := Lib.hid hr; have H := Lib.hid h; have H2 := Lib.hid h2; clear hn hr h h2
      go_enter Try.func28, Try.ntmps28
      go_wp2_with (first | (go_at_call 44; refine (pvI _ _ _ xs _ _ R.out N.out hx).mono ?_; rintro e w' ⟨rfl, rfl⟩; rw [H.out]) | (go_at_call 53; refine (allZero_any _ _ _ xs _ _ R.out N.out hx).mono ?_; rintro e w' ⟨rfl, rfl⟩; rw [H2.out]))
      go_ret
      exact ⟨rfl, Below.refl _ _⟩

set_option maxHeartbeats 1000000 in
theorem degreeOf_spec (A : Option Addr) (n cap : Nat) (xs : List Int) (w : World) (hr : Row w w.heap.size A xs) (hn : n = xs.length) (hc : n ≤ cap) (hx : n ≤ 10000000) :
    Calls Try.prog 27 #[.slice A n cap] w fun e w' => e = .returned (.int .i64 (degP xs)) ∧ Below w.heap.size w w' := by
  cases h : polyB xs
  · rw [degP_no h]
    have N := Lib.hid hn; have R := Lib.hid hr; have H := Lib.hid h; clear hn hr h
    go_enter Try.func27, Try.ntmps27
    go_wp2_with (go_at_call 43; refine (pvS _ _ _ xs _ _ R.out N.out hx).mono ?_; rintro e w' ⟨rfl, rfl⟩; rw [H.out])
    go_ret
    exact ⟨rfl, Below.refl _ _⟩
  · have hl := poly_len h
    have hb := trimN_bd hl.1
    have ha := all0_iff hl.1
    obtain ⟨k, hk⟩ : ∃ k, k = trimN xs := ⟨_, rfl⟩
    have hkl : k = (trimW xs).length := by rw [trimW_length hl.1, hk]
    have hd1 := degP_zero h
    have hd2 := degP_yes h
    rw [← hk] at hb ha hd2
    obtain ⟨x0, e0⟩ : ∃ x0, xs[0] = x0 := ⟨_, rfl⟩
    have hT0 : ∀ hj : 0 < (trimW xs).length, (trimW xs)[0] = x0 := fun hj => by
      have e : (trimW xs)[0]? = some x0 := by
        unfold trimW
        rw [List.getElem?_take, if_pos (by omega), List.getElem?_eq_getElem (by omega), e0]
      rw [List.getElem?_eq_getElem hj] at e
      exact Option.some.inj e
    rw [e0] at ha
    have K := Lib.hid hkl; have N := Lib.hid hn; have R := Lib.hid hr; have H := Lib.hid h; have D1 := Lib.hid hd1; have D2 := Lib.hid hd2; have HA := Lib.hid ha; have HT := Lib.hid hT0; clear hn hr h hk hkl hd1 hd2 ha hT0 e0
    have hk0 : 0 < k := by omega
    by_cases h1 : k = 1
    · have hk1 : ((k : Int) == 1) = true := by simp [h1]
      have K1 := Lib.hid h1; clear h1
      by_cases h0 : x0 = 0
      · have hx0 : (x0 == 0) = true := by simp [h0]
        rw [D1.out (HA.out.2 ⟨K1.out, h0⟩)]
        clear h0
        go_enter Try.func27, Try.ntmps27
        go_wp2_with (first | (go_at_call 43; refine (pvS _ _ _ xs _ _ R.out N.out hx).mono ?_; rintro e w' ⟨rfl, rfl⟩; rw [H.out]) | (go_at_call 52; refine (l2Trim_any _ _ _ xs _ R.out N.out hc (by have := N.out; omega) hx).mono ?_; rintro e w2 hg; obtain ⟨A2, c2, rfl, o2, b2⟩ := hg.len k K.out; obtain ⟨b', o', rfl, _, hcell⟩ := o2.row 0 (by have := K.out; omega); rw [HT.out, Nat.add_zero] at hcell; have B2 := Lib.hid b2; clear hg o2 b2))
        go_ret
        exact ⟨rfl, B2.out⟩
      · have hx0 : (x0 == 0) = false := by simp [h0]
        rw [D2.out (by rw [Bool.eq_false_iff]; intro hq; exact h0 (HA.out.1 hq).2)]
        clear h0
        go_enter Try.func27, Try.ntmps27
        go_wp2_with (first | (go_at_call 43; refine (pvS _ _ _ xs _ _ R.out N.out hx).mono ?_; rintro e w' ⟨rfl, rfl⟩; rw [H.out]) | (go_at_call 52; refine (l2Trim_any _ _ _ xs _ R.out N.out hc (by have := N.out; omega) hx).mono ?_; rintro e w2 hg; obtain ⟨A2, c2, rfl, o2, b2⟩ := hg.len k K.out; obtain ⟨b', o', rfl, _, hcell⟩ := o2.row 0 (by have := K.out; omega); rw [HT.out, Nat.add_zero] at hcell; have B2 := Lib.hid b2; clear hg o2 b2))
        go_ret
        exact ⟨rfl, B2.out⟩
    · have hk1 : ((k : Int) == 1) = false := by simp; omega
      rw [D2.out (by rw [Bool.eq_false_iff]; intro hq; exact h1 (HA.out.1 hq).1)]
      clear h1
      go_enter Try.func27, Try.ntmps27
      go_wp2_with (first | (go_at_call 43; refine (pvS _ _ _ xs _ _ R.out N.out hx).mono ?_; rintro e w' ⟨rfl, rfl⟩; rw [H.out]) | (go_at_call 52; refine (l2Trim_any _ _ _ xs _ R.out N.out hc (by have := N.out; omega) hx).mono ?_; rintro e w2 hg; obtain ⟨A2, c2, rfl, o2, b2⟩ := hg.len k K.out; obtain ⟨b', o', rfl, _, hcell⟩ := o2.row 0 (by have := K.out; omega); rw [HT.out, Nat.add_zero] at hcell; have B2 := Lib.hid b2; clear hg o2 b2))
      go_ret
      exact ⟨rfl, B2.out⟩
end Go.Proofs.Ythjadabaojcmoaa
