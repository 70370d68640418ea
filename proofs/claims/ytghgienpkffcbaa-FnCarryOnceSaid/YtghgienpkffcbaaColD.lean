/- The walks of both texts of AddColumns, SubtractColumns, NegateColumn, WidthFor, WidenColumn, CastNines and CastElevens. -/
import Derived.Test.YtghgienpkffcbaaColC
namespace Go.Proofs.Ytghgienpkffcbaa
open Go.RowKit

set_option maxHeartbeats 1000000 in
theorem add_impl (a b : ByteArray) (w : World) (ha : a.size ≤ maxLen) (hb : b.size ≤ maxLen) :
    Calls Try.prog 26 #[.string a, .string b] w fun e w' => e = .returned (.tuple #[.string (str (sumL (bl a) (bl b))), .bool (alikeB (bl a) (bl b))]) ∧ Below w.heap.size w w' := by
  cases h : alikeB (bl a) (bl b)
  · rw [show sumL (bl a) (bl b) = [] by unfold sumL; rw [h]; rfl]
    have H := Lib.hid h; clear h
    go_enter Try.func26, Try.ntmps26
    go_wp2_with (go_at_call 42; refine (alike_any _ _ _ ha hb).mono ?_; rintro e w' ⟨rfl, rfl⟩; rw [H.out])
    go_ret2
    exact ⟨rfl, Below.refl _ _⟩
  · rw [show sumL (bl a) (bl b) = showL ((val (bl a) + val (bl b)) % p10 a.size).toNat a.size by unfold sumL; rw [if_pos h, length_bl]]
    obtain ⟨c1, c2, c3⟩ := alikeB_iff.1 h
    have v1 := val_lt_p10 c1
    have v2 := val_lt_p10 c2
    rw [← c3] at v2
    rw [length_bl] at v1 v2
    have hz := col_size c1
    have VA := Lib.hid (valOf_yes c1)
    have VB := Lib.hid (valOf_yes c2)
    have p0 := p10_pos a.size
    have p1 := p10_big hz.2
    have m0 := Int.emod_nonneg (val (bl a) + val (bl b)) (show p10 a.size ≠ 0 by omega)
    have m1 := Int.emod_lt_of_pos (val (bl a) + val (bl b)) (show 0 < p10 a.size by omega)
    obtain ⟨v, hv⟩ := Int.eq_ofNat_of_zero_le m0
    rw [hv] at m1
    rw [hv, Int.toNat_natCast]
    have V := Lib.hid hv; have H := Lib.hid h; clear hv m0 h c1 c2 c3
    go_enter Try.func26, Try.ntmps26
    go_wp2_with (first | (go_at_call 42; refine (alike_any _ _ _ ha hb).mono ?_; rintro e w' ⟨rfl, rfl⟩; rw [H.out]) | (go_at_call 19; refine (valueOf_impl _ _ (by assumption)).mono ?_; rintro e w' ⟨rfl, rfl⟩; first | rw [VA.out] | rw [VB.out]) | (go_at_call 46; refine (powerOfTen_any _ _ hz.2).mono ?_; rintro e w' ⟨rfl, rfl⟩) | (go_at_call 45; refine (modulo_any _ _ _ p0 p1 (by omega) (by omega)).mono ?_; rintro e w' ⟨rfl, rfl⟩; rw [V.out]) | (go_at_call 44; refine (showNumber_any _ _ _ (by omega) hz.1 hz.2).mono ?_; rintro e w' ⟨rfl, hw⟩; have W := Lib.hid hw; clear hw))
    go_ret2
    exact ⟨rfl, W.out⟩

/-- What WidenColumn returns. -/
def widenB (l : List UInt8) (width : Int) : Bool := colB l && colOfB (sgnOf l) width
def widenL (l : List UInt8) (width : Int) : List UInt8 := if colB l = true then colOfL (sgnOf l) width else []
theorem widen_no {l : List UInt8} {width : Int} (h : colB l = false) : widenB l width = false ∧ widenL l width = [] := by
  unfold widenB widenL; rw [h]; exact ⟨rfl, rfl⟩
theorem widen_yes {l : List UInt8} {width : Int} (h : colB l = true) : widenB l width = colOfB (sgnOf l) width ∧ widenL l width = colOfL (sgnOf l) width := by
  unfold widenB widenL; rw [h]; exact ⟨rfl, rfl⟩

/-- What CastNines and CastElevens return. -/
def castOf (m : Int) (l : List UInt8) : Int := if colB l = true then val l % m else -1
theorem castOf_no {m : Int} {l : List UInt8} (h : colB l = false) : castOf m l = -1 := by unfold castOf; rw [h]; rfl
theorem castOf_yes {m : Int} {l : List UInt8} (h : colB l = true) : castOf m l = val l % m := if_pos h

end Go.Proofs.Ytghgienpkffcbaa
