/- The walks of both texts of AddColumns, SubtractColumns, NegateColumn, WidthFor, WidenColumn, CastNines and CastElevens. -/
import Derived.Test.YtblkhjbakkiphaaColC
namespace Go.Proofs.Ytblkhjbakkiphaa
open Go.RowKit

set_option maxHeartbeats 1000000 in
theorem add_impl (a b : ByteArray) (w : World) (ha : a.size ≤ maxLen) (hb : b.size ≤ maxLen) :
    Calls Try.prog 25 #[.string a, .string b] w fun e w' => e = .returned (.tuple #[.string (str (sumL (bl a) (bl b))), .bool (alikeB (bl a) (bl b))]) ∧ Below w.heap.size w w' := by
  cases h : alikeB (bl a) (bl b)
  · rw [show sumL (bl a) (bl b) = [] by unfold sumL; rw [h]; rfl]
    have H := Lib.hid h; clear h
    go_enter Try.func25, Try.ntmps25
    go_wp2_with (go_at_call 44; refine (alike_any _ _ _ ha hb).mono ?_; rintro e w' ⟨rfl, rfl⟩; rw [H.out])
    go_ret2
    exact ⟨rfl, Below.refl _ _⟩
  · rw [show sumL (bl a) (bl b) = showL ((val (bl a) + val (bl b)) % p10 a.size).toNat a.size by unfold sumL; rw [if_pos h, length_bl]]
    obtain ⟨c1, c2, c3⟩ := alikeB_iff.1 h
    have v1 := val_lt_p10 c1
    have v2 := val_lt_p10 c2
    rw [← c3] at v2
    rw [length_bl] at v1 v2
    have hz := col_size c1
    have VA := Lib.hid (valOf_yes c1)
    have VB := Lib.hid (valOf_yes c2)
    have p0 := p10_pos a.size
    have p1 := p10_big hz.2
    have m0 := Int.emod_nonneg (val (bl a) + val (bl b)) (show p10 a.size ≠ 0 by omega)
    have m1 := Int.emod_lt_of_pos (val (bl a) + val (bl b)) (show 0 < p10 a.size by omega)
    obtain ⟨v, hv⟩ := Int.eq_ofNat_of_zero_le m0
    rw [hv] at m1
    rw [hv, Int.toNat_natCast]
    have V := Lib.hid hv; have H := Lib.hid h; clear hv m0 h c1 c2 c3
    go_enter Try.func25, Try.ntmps25
    go_wp2_with (first | (go_at_call 44; refine (alike_any _ _ _ ha hb).mono ?_; rintro e w' ⟨rfl, rfl⟩; rw [H.out]) | (go_at_call 28; refine (valueOf_impl _ _ (by assumption)).mono ?_; rintro e w' ⟨rfl, rfl⟩; first | rw [VA.out] | rw [VB.out]) | (go_at_call 41; refine (powerOfTen_any _ _ hz.2).mono ?_; rintro e w' ⟨rfl, rfl⟩) | (go_at_call 43; refine (modulo_any _ _ _ p0 p1 (by omega) (by omega)).mono ?_; rintro e w' ⟨rfl, rfl⟩; rw [V.out]) | (go_at_call 42; refine (showNumber_any _ _ _ (by omega) hz.1 hz.2).mono ?_; rintro e w' ⟨rfl, hw⟩; have W := Lib.hid hw; clear hw))
    go_ret2
    exact ⟨rfl, W.out⟩

set_option maxHeartbeats 1000000 in
theorem add_spec (a b : ByteArray) (w : World) (ha : a.size ≤ maxLen) (hb : b.size ≤ maxLen) :
    Calls Try.prog 26 #[.string a, .string b] w fun e w' => e = .returned (.tuple #[.string (str (sumL (bl a) (bl b))), .bool (alikeB (bl a) (bl b))]) ∧ Below w.heap.size w w' := by
  cases h : alikeB (bl a) (bl b)
  · rw [show sumL (bl a) (bl b) = [] by unfold sumL; rw [h]; rfl]
    have H := Lib.hid h; clear h
    go_enter Try.func26, Try.ntmps26
    go_wp2_with (go_at_call 45; refine (l1Pair_any _ _ _ ha hb).mono ?_; rintro e w' ⟨rfl, rfl⟩; rw [H.out])
    go_ret2
    exact ⟨rfl, Below.refl _ _⟩
  · rw [show sumL (bl a) (bl b) = showL ((val (bl a) + val (bl b)) % p10 a.size).toNat a.size by unfold sumL; rw [if_pos h, length_bl]]
    obtain ⟨c1, c2, c3⟩ := alikeB_iff.1 h
    have v1 := val_small (colB_dig c1) (colB_len c1).2
    have v2 := val_small (colB_dig c2) (colB_len c2).2
    have hz := col_size c1
    have hz2 := col_size c2
    have D1 := Lib.hid (colB_dig c1)
    have D2 := Lib.hid (colB_dig c2)
    have H := Lib.hid h; clear h c1 c2 c3
    go_enter Try.func26, Try.ntmps26
    go_wp2_with (first | (go_at_call 45; refine (l1Pair_any _ _ _ ha hb).mono ?_; rintro e w' ⟨rfl, rfl⟩; rw [H.out]) | (go_at_call 52; refine (l1Value_any _ _ (by first | exact hz.2 | exact hz2.2) (by first | exact D1.out | exact D2.out)).mono ?_; rintro e w' ⟨rfl, rfl⟩) | (go_at_call 48; refine (l1Show_any _ _ _ hz.1 hz.2).mono ?_; rintro e w' ⟨rfl, hw⟩; have W := Lib.hid hw; clear hw))
    go_ret2
    exact ⟨rfl, W.out⟩

set_option maxHeartbeats 1000000 in
theorem sub_impl (a b : ByteArray) (w : World) (ha : a.size ≤ maxLen) (hb : b.size ≤ maxLen) :
    Calls Try.prog 27 #[.string a, .string b] w fun e w' => e = .returned (.tuple #[.string (str (subL (bl a) (bl b))), .bool (alikeB (bl a) (bl b))]) ∧ Below w.heap.size w w' := by
  cases h : alikeB (bl a) (bl b)
  · rw [show subL (bl a) (bl b) = [] by unfold subL; rw [h]; rfl]
    have H := Lib.hid h; clear h
    go_enter Try.func27, Try.ntmps27
    go_wp2_with (go_at_call 44; refine (alike_any _ _ _ ha hb).mono ?_; rintro e w' ⟨rfl, rfl⟩; rw [H.out])
    go_ret2
    exact ⟨rfl, Below.refl _ _⟩
  · rw [show subL (bl a) (bl b) = showL ((val (bl a) - val (bl b)) % p10 a.size).toNat a.size by unfold subL; rw [if_pos h, length_bl]]
    obtain ⟨c1, c2, c3⟩ := alikeB_iff.1 h
    have v1 := val_lt_p10 c1
    have v2 := val_lt_p10 c2
    rw [← c3] at v2
    rw [length_bl] at v1 v2
    have hz := col_size c1
    have VA := Lib.hid (valOf_yes c1)
    have VB := Lib.hid (valOf_yes c2)
    have p0 := p10_pos a.size
    have p1 := p10_big hz.2
    have m0 := Int.emod_nonneg (val (bl a) - val (bl b)) (show p10 a.size ≠ 0 by omega)
    have m1 := Int.emod_lt_of_pos (val (bl a) - val (bl b)) (show 0 < p10 a.size by omega)
    obtain ⟨v, hv⟩ := Int.eq_ofNat_of_zero_le m0
    rw [hv] at m1
    rw [hv, Int.toNat_natCast]
    have V := Lib.hid hv; have H := Lib.hid h; clear hv m0 h c1 c2 c3
    go_enter Try.func27, Try.ntmps27
    go_wp2_with (first | (go_at_call 44; refine (alike_any _ _ _ ha hb).mono ?_; rintro e w' ⟨rfl, rfl⟩; rw [H.out]) | (go_at_call 28; refine (valueOf_impl _ _ (by assumption)).mono ?_; rintro e w' ⟨rfl, rfl⟩; first | rw [VA.out] | rw [VB.out]) | (go_at_call 41; refine (powerOfTen_any _ _ hz.2).mono ?_; rintro e w' ⟨rfl, rfl⟩) | (go_at_call 43; refine (modulo_any _ _ _ p0 p1 (by omega) (by omega)).mono ?_; rintro e w' ⟨rfl, rfl⟩; rw [V.out]) | (go_at_call 42; refine (showNumber_any _ _ _ (by omega) hz.1 hz.2).mono ?_; rintro e w' ⟨rfl, hw⟩; have W := Lib.hid hw; clear hw))
    go_ret2
    exact ⟨rfl, W.out⟩

set_option maxHeartbeats 1000000 in
theorem neg_impl (a : ByteArray) (w : World) (ha : a.size ≤ maxLen) :
    Calls Try.prog 32 #[.string a] w fun e w' => e = .returned (.tuple #[.string (str (negL (bl a))), .bool (colB (bl a))]) ∧ Below w.heap.size w w' := by
  cases h : colB (bl a)
  · rw [show negL (bl a) = [] by unfold negL; rw [h]; rfl]
    have H := Lib.hid h; clear h
    go_enter Try.func32, Try.ntmps32
    go_wp2_with (go_at_call 23; refine (columnValid_impl _ _ ha).mono ?_; rintro e w' ⟨rfl, rfl⟩; rw [H.out])
    go_ret2
    exact ⟨rfl, Below.refl _ _⟩
  · rw [show negL (bl a) = showL ((-val (bl a)) % p10 a.size).toNat a.size by unfold negL; rw [if_pos h, length_bl]]
    have v1 := val_lt_p10 h
    rw [length_bl] at v1
    have hz := col_size h
    have VA := Lib.hid (valOf_yes h)
    have p0 := p10_pos a.size
    have p1 := p10_big hz.2
    have m0 := Int.emod_nonneg (-val (bl a)) (show p10 a.size ≠ 0 by omega)
    have m1 := Int.emod_lt_of_pos (-val (bl a)) (show 0 < p10 a.size by omega)
    obtain ⟨v, hv⟩ := Int.eq_ofNat_of_zero_le m0
    rw [hv] at m1
    rw [hv, Int.toNat_natCast]
    have V := Lib.hid hv; have H := Lib.hid h; clear hv m0 h
    go_enter Try.func32, Try.ntmps32
    go_wp2_with (first | (go_at_call 23; refine (columnValid_impl _ _ ha).mono ?_; rintro e w' ⟨rfl, rfl⟩; rw [H.out]) | (go_at_call 28; refine (valueOf_impl _ _ ha).mono ?_; rintro e w' ⟨rfl, rfl⟩; rw [VA.out]) | (go_at_call 41; refine (powerOfTen_any _ _ hz.2).mono ?_; rintro e w' ⟨rfl, rfl⟩) | (go_at_call 43; refine (modulo_any _ _ _ p0 p1 (by omega) (by omega)).mono ?_; rintro e w' ⟨rfl, rfl⟩; rw [V.out]) | (go_at_call 42; refine (showNumber_any _ _ _ (by omega) hz.1 hz.2).mono ?_; rintro e w' ⟨rfl, hw⟩; have W := Lib.hid hw; clear hw))
    go_ret2
    exact ⟨rfl, W.out⟩

set_option maxHeartbeats 1000000 in
theorem neg_spec (a : ByteArray) (w : World) (ha : a.size ≤ maxLen) :
    Calls Try.prog 33 #[.string a] w fun e w' => e = .returned (.tuple #[.string (str (negL (bl a))), .bool (colB (bl a))]) ∧ Below w.heap.size w w' := by
  cases h : colB (bl a)
  · rw [show negL (bl a) = [] by unfold negL; rw [h]; rfl]
    have H := Lib.hid h; clear h
    go_enter Try.func33, Try.ntmps33
    go_wp2_with (go_at_call 54; refine (columnValid_spec _ _ ha).mono ?_; rintro e w' ⟨rfl, rfl⟩; rw [H.out])
    go_ret2
    exact ⟨rfl, Below.refl _ _⟩
  · rw [show negL (bl a) = showL ((-val (bl a)) % p10 a.size).toNat a.size by unfold negL; rw [if_pos h, length_bl]]
    have v1 := val_small (colB_dig h) (colB_len h).2
    have hz := col_size h
    have D1 := Lib.hid (colB_dig h)
    have H := Lib.hid h; clear h
    go_enter Try.func33, Try.ntmps33
    go_wp2_with (first | (go_at_call 54; refine (columnValid_spec _ _ ha).mono ?_; rintro e w' ⟨rfl, rfl⟩; rw [H.out]) | (go_at_call 52; refine (l1Value_any _ _ hz.2 D1.out).mono ?_; rintro e w' ⟨rfl, rfl⟩) | (go_at_call 48; refine (l1Show_any _ _ _ hz.1 hz.2).mono ?_; rintro e w' ⟨rfl, hw⟩; have W := Lib.hid hw; clear hw))
    go_ret2
    exact ⟨rfl, W.out⟩

/-- What WidenColumn returns. -/
def widenB (l : List UInt8) (width : Int) : Bool := colB l && colOfB (sgnOf l) width
def widenL (l : List UInt8) (width : Int) : List UInt8 := if colB l = true then colOfL (sgnOf l) width else []
theorem widen_no {l : List UInt8} {width : Int} (h : colB l = false) : widenB l width = false ∧ widenL l width = [] := by
  unfold widenB widenL; rw [h]; exact ⟨rfl, rfl⟩
theorem widen_yes {l : List UInt8} {width : Int} (h : colB l = true) : widenB l width = colOfB (sgnOf l) width ∧ widenL l width = colOfL (sgnOf l) width := by
  unfold widenB widenL; rw [h]; exact ⟨rfl, rfl⟩

set_option maxHeartbeats 1000000 in
theorem widen_impl (s : ByteArray) (width : Int) (w : World) (hs : s.size ≤ maxLen) :
    Calls Try.prog 35 #[.string s, .int .i64 width] w fun e w' => e = .returned (.tuple #[.string (str (widenL (bl s) width)), .bool (widenB (bl s) width)]) ∧ Below w.heap.size w w' := by
  cases h : colB (bl s)
  · rw [(widen_no h).1, (widen_no h).2]
    have H := Lib.hid h; clear h
    go_enter Try.func35, Try.ntmps35
    go_wp2_with (go_at_call 22; refine (signedOf_impl _ _ hs).mono ?_; rintro e w' ⟨rfl, rfl⟩; rw [H.out])
    go_ret2
    exact ⟨rfl, Below.refl _ _⟩
  · rw [(widen_yes h).1, (widen_yes h).2]
    have H := Lib.hid h; clear h
    go_enter Try.func35, Try.ntmps35
    go_wp2_with (first | (go_at_call 22; refine (signedOf_impl _ _ hs).mono ?_; rintro e w' ⟨rfl, rfl⟩; rw [H.out]) | (go_at_call 15; refine (columnOf_impl _ _ _).mono ?_; rintro e w' ⟨rfl, hw⟩; have W := Lib.hid hw; clear hw))
    go_ret2
    exact ⟨rfl, W.out⟩

set_option maxHeartbeats 1000000 in
theorem widen_spec (s : ByteArray) (width : Int) (w : World) (hs : s.size ≤ maxLen) :
    Calls Try.prog 36 #[.string s, .int .i64 width] w fun e w' => e = .returned (.tuple #[.string (str (widenL (bl s) width)), .bool (widenB (bl s) width)]) ∧ Below w.heap.size w w' := by
  cases h : colB (bl s)
  · rw [(widen_no h).1, (widen_no h).2]
    have H := Lib.hid h; clear h
    go_enter Try.func36, Try.ntmps36
    go_wp2_with (go_at_call 54; refine (columnValid_spec _ _ hs).mono ?_; rintro e w' ⟨rfl, rfl⟩; rw [H.out])
    go_ret2
    exact ⟨rfl, Below.refl _ _⟩
  · rw [(widen_yes h).1, (widen_yes h).2]
    have H := Lib.hid h; clear h
    go_enter Try.func36, Try.ntmps36
    go_wp2_with (first | (go_at_call 54; refine (columnValid_spec _ _ hs).mono ?_; rintro e w' ⟨rfl, rfl⟩; rw [H.out]) | (go_at_call 55; refine (l1Signed_any _ _ H.out).mono ?_; rintro e w' ⟨rfl, rfl⟩) | (go_at_call 21; refine (columnOf_spec _ _ _).mono ?_; rintro e w' ⟨rfl, hw⟩; have W := Lib.hid hw; clear hw))
    go_ret2
    exact ⟨rfl, W.out⟩

/-- What CastNines and CastElevens return. -/
def castOf (m : Int) (l : List UInt8) : Int := if colB l = true then val l % m else -1
theorem castOf_no {m : Int} {l : List UInt8} (h : colB l = false) : castOf m l = -1 := by unfold castOf; rw [h]; rfl
theorem castOf_yes {m : Int} {l : List UInt8} (h : colB l = true) : castOf m l = val l % m := if_pos h

set_option maxHeartbeats 1000000 in
theorem nines_impl (s : ByteArray) (w : World) (hs : s.size ≤ maxLen) :
    Calls Try.prog 29 #[.string s] w fun e w' => e = .returned (.int .i64 (castOf 9 (bl s))) ∧ w = w' := by
  cases h : colB (bl s)
  · rw [castOf_no h]
    have H := Lib.hid h; clear h
    go_enter Try.func29, Try.ntmps29
    go_wp2_with (go_at_call 23; refine (columnValid_impl _ _ hs).mono ?_; rintro e w' ⟨rfl, rfl⟩; rw [H.out])
    go_ret
    exact ⟨rfl, rfl⟩
  · rw [castOf_yes h]
    have v1 := val_small (colB_dig h) (colB_len h).2
    have VA := Lib.hid (valOf_yes h)
    have H := Lib.hid h; clear h
    go_enter Try.func29, Try.ntmps29
    go_wp2_with (first | (go_at_call 23; refine (columnValid_impl _ _ hs).mono ?_; rintro e w' ⟨rfl, rfl⟩; rw [H.out]) | (go_at_call 28; refine (valueOf_impl _ _ hs).mono ?_; rintro e w' ⟨rfl, rfl⟩; rw [VA.out]))
    go_ret
    exact ⟨rfl, rfl⟩

set_option maxHeartbeats 1000000 in
theorem elevens_impl (s : ByteArray) (w : World) (hs : s.size ≤ maxLen) :
    Calls Try.prog 30 #[.string s] w fun e w' => e = .returned (.int .i64 (castOf 11 (bl s))) ∧ w = w' := by
  cases h : colB (bl s)
  · rw [castOf_no h]
    have H := Lib.hid h; clear h
    go_enter Try.func30, Try.ntmps30
    go_wp2_with (go_at_call 23; refine (columnValid_impl _ _ hs).mono ?_; rintro e w' ⟨rfl, rfl⟩; rw [H.out])
    go_ret
    exact ⟨rfl, rfl⟩
  · rw [castOf_yes h]
    have v1 := val_small (colB_dig h) (colB_len h).2
    have VA := Lib.hid (valOf_yes h)
    have H := Lib.hid h; clear h
    go_enter Try.func30, Try.ntmps30
    go_wp2_with (first | (go_at_call 23; refine (columnValid_impl _ _ hs).mono ?_; rintro e w' ⟨rfl, rfl⟩; rw [H.out]) | (go_at_call 28; refine (valueOf_impl _ _ hs).mono ?_; rintro e w' ⟨rfl, rfl⟩; rw [VA.out]))
    go_ret
    exact ⟨rfl, rfl⟩

set_option maxHeartbeats 1000000 in
theorem widthFor_impl (n : Int) (w : World) :
    Calls Try.prog 13 #[.int .i64 n] w fun e w' => e = .returned (.int .i64 (widthFor n)) ∧ Below w.heap.size w w' := by
  go_enter Try.func13, Try.ntmps13
  go_wp2_with fail
  go_loopw [3] (fun i wr => ∃ k f : Nat, k + f = 13 ∧ 1 ≤ k ∧ i = .int .i64 (k : Int) ∧ widthFor n = widthFrom n k f ∧ Below w.heap.size w wr) (fun i _ => 13 - (intOf i).toNat)
  case atStart => exact ⟨1, 12, rfl, by decide, rfl, rfl, Below.refl _ _⟩
  case round =>
    obtain ⟨k, f, hk, h1, rfl, hq, hw⟩ := hrel
    cases f with
    | zero =>
      have h13 : ¬ (k : Int) ≤ 12 := by omega
      have Q := Lib.hid hq; have W := Lib.hid hw; clear hk hq hw
      go_wp2_with fail
      go_ret
      exact ⟨ret_int Q.out.symm, W.out⟩
    | succ f =>
      have h12 : (k : Int) ≤ 12 := by omega
      cases hc : colOfB n (k : Int)
      · rw [widthFrom_no hc] at hq
        have C := Lib.hid hc; have Q := Lib.hid hq; have W := Lib.hid hw; have HK := Lib.hid hk; clear hk hq hw hc
        go_wp2_with (go_at_call 15; refine (columnOf_impl _ _ _).mono ?_; rintro e w2 ⟨rfl, hw2⟩; rw [C.out]; have W2 := Lib.hid (W.out.trans (hw2.mono W.out.size)); clear hw2)
        go_roundw
        case rel => exact ⟨k + 1, f, by have := HK.out; omega, by omega, by go_num, Q.out, W2.out⟩
        case measure => simp [intOf] <;> omega
      · rw [widthFrom_yes hc] at hq
        have C := Lib.hid hc; have Q := Lib.hid hq; have W := Lib.hid hw; have HK := Lib.hid hk; clear hk hq hw hc
        go_wp2_with (go_at_call 15; refine (columnOf_impl _ _ _).mono ?_; rintro e w2 ⟨rfl, hw2⟩; rw [C.out]; have W2 := Lib.hid (W.out.trans (hw2.mono W.out.size)); clear hw2)
        go_ret
        exact ⟨ret_int Q.out.symm, W2.out⟩

set_option maxHeartbeats 1000000 in
theorem widthFor_spec (n : Int) (w : World) :
    Calls Try.prog 14 #[.int .i64 n] w fun e w' => e = .returned (.int .i64 (widthFor n)) ∧ w = w' := by
  go_enter Try.func14, Try.ntmps14
  go_wp2_with fail
  go_loop [3] (fun i => ∃ k f : Nat, k + f = 13 ∧ 1 ≤ k ∧ i = .int .i64 (k : Int) ∧ widthFor n = widthFrom n k f) (fun i => 13 - (intOf i).toNat)
  case atStart => exact ⟨1, 12, rfl, by decide, rfl, rfl⟩
  case round =>
    obtain ⟨k, f, hk, h1, rfl, hq⟩ := hrel
    cases f with
    | zero =>
      have h13 : ¬ (k : Int) ≤ 12 := by omega
      have Q := Lib.hid hq; clear hk hq
      go_wp2_with fail
      go_ret
      exact ⟨ret_int Q.out.symm, rfl⟩
    | succ f =>
      have h12 : (k : Int) ≤ 12 := by omega
      have hk2 : k ≤ 12 := by omega
      cases hc : fitB n k
      · rw [widthFrom_no (by rw [colOfB_fit h1 hk2]; exact hc)] at hq
        have C := Lib.hid hc; have Q := Lib.hid hq; have HK := Lib.hid hk; clear hk hq hc
        go_wp2_with (go_at_call 39; refine (l1Fits_any _ _ _ h1 hk2).mono ?_; rintro e w2 ⟨rfl, rfl⟩; rw [C.out])
        go_round
        case rel => exact ⟨k + 1, f, by have := HK.out; omega, by omega, by go_num, Q.out⟩
        case measure => simp [intOf] <;> omega
      · rw [widthFrom_yes (by rw [colOfB_fit h1 hk2]; exact hc)] at hq
        have C := Lib.hid hc; have Q := Lib.hid hq; have HK := Lib.hid hk; clear hk hq hc
        go_wp2_with (go_at_call 39; refine (l1Fits_any _ _ _ h1 hk2).mono ?_; rintro e w2 ⟨rfl, rfl⟩; rw [C.out])
        go_ret
        exact ⟨ret_int Q.out.symm, rfl⟩

end Go.Proofs.Ytblkhjbakkiphaa
