/- The walks of both texts of ColumnOf, SignedOf, WidthFor, WidenColumn, AddColumns, SubtractColumns, NegateColumn, CastNines and CastElevens. -/
import Derived.Test.YthhkpghecekoeaaDoorShow
namespace Go.Proofs.YthhkpghecekoeaaDoor
open Go.RowKit

theorem below_two {w a b : World} (h1 : Below w.heap.size w a) (h2 : Below a.heap.size a b) : Below w.heap.size w b := h1.trans (h2.mono h1.size)
theorem ret_pair {a b : ByteArray} {x y : Bool} (h1 : a = b) (h2 : x = y) : Ending.returned (.tuple #[.string a, .bool x]) = .returned (.tuple #[.string b, .bool y]) := by rw [h1, h2]

set_option maxHeartbeats 1000000 in
theorem columnOf_impl (n width : Int) (w : World) :
    Calls Tryd.prog 14 #[.int .i64 n, .int .i64 width] w fun e w' => e = .returned (.tuple #[.string (str (colOfL n width)), .bool (colOfB n width)]) ∧ Below w.heap.size w w' := by
  cases hb : inB width 1 12
  · have h := inB_false hb
    have hf : colOfB n width = false := by
      rw [Bool.eq_false_iff]; intro hc; have := (colOfB_iff.1 hc).1; omega
    rw [colOfL_no hf, hf]
    have B := Lib.hid hb; clear hb hf
    go_enter Tryd.func14, Tryd.ntmps14
    go_wp2_with (go_at_call 25; refine (widthValid_any _ _).mono ?_; rintro e w' ⟨rfl, rfl⟩; rw [B.out])
    go_ret2
    exact ⟨rfl, Below.refl _ _⟩
  · have h := inB_true hb
    have B := Lib.hid hb; clear hb
    obtain ⟨k, rfl⟩ := Int.eq_ofNat_of_zero_le (show 0 ≤ width by omega)
    have hk1 : 1 ≤ k := by omega
    have hk2 : k ≤ 12 := by omega
    have p0 := p10_pos k
    have p1 := p10_big hk2
    have f0 := hf_pos hk1
    have fp : 2 * hf k ≤ p10 k := by have := p10_half hk1; omega
    have e1 := half_down hk1
    have e2 : p10 k / 2 = hf k := rfl
    by_cases hlo : n < -hf k
    · have hf : colOfB n (k : Int) = false := by
        rw [Bool.eq_false_iff]; intro hc; have := (colOfB_iff.1 hc).2; rw [Int.toNat_natCast] at this; omega
      rw [colOfL_no hf, hf]
      clear hf
      go_enter Tryd.func14, Tryd.ntmps14
      go_wp2_with (first | (go_at_call 25; refine (widthValid_any _ _).mono ?_; rintro e w' ⟨rfl, rfl⟩; rw [B.out]) | (go_at_call 24; refine (powerOfTen_any _ _ hk2).mono ?_; rintro e w' ⟨rfl, rfl⟩))
      go_ret2
      exact ⟨rfl, Below.refl _ _⟩
    · by_cases hhi : hf k ≤ n
      · have hf : colOfB n (k : Int) = false := by
          rw [Bool.eq_false_iff]; intro hc; have := (colOfB_iff.1 hc).2; rw [Int.toNat_natCast] at this; omega
        rw [colOfL_no hf, hf]
        clear hf
        go_enter Tryd.func14, Tryd.ntmps14
        go_wp2_with (first | (go_at_call 25; refine (widthValid_any _ _).mono ?_; rintro e w' ⟨rfl, rfl⟩; rw [B.out]) | (go_at_call 24; refine (powerOfTen_any _ _ hk2).mono ?_; rintro e w' ⟨rfl, rfl⟩))
        go_ret2
        exact ⟨rfl, Below.refl _ _⟩
      · have hf : colOfB n (k : Int) = true := colOfB_iff.2 ⟨by omega, by rw [Int.toNat_natCast]; omega⟩
        rw [colOfL_yes hf, hf, Int.toNat_natCast]
        clear hf
        have m0 := Int.emod_nonneg n (show p10 k ≠ 0 by omega)
        have m1 := Int.emod_lt_of_pos n (show 0 < p10 k by omega)
        obtain ⟨v, hv⟩ := Int.eq_ofNat_of_zero_le m0
        rw [hv] at m1
        have V := Lib.hid hv; clear hv m0
        go_enter Tryd.func14, Tryd.ntmps14
        go_wp2_with (first | (go_at_call 25; refine (widthValid_any _ _).mono ?_; rintro e w' ⟨rfl, rfl⟩; rw [B.out]) | (go_at_call 24; refine (powerOfTen_any _ _ hk2).mono ?_; rintro e w' ⟨rfl, rfl⟩) | (go_at_call 27; refine (modulo_any _ _ _ p0 p1 (by omega) (by omega)).mono ?_; rintro e w' ⟨rfl, rfl⟩; rw [V.out]) | (go_at_call 26; refine (showNumber_any _ _ _ (by omega) hk1 hk2).mono ?_; rintro e w' ⟨rfl, hw⟩; have W := Lib.hid hw; clear hw))
        go_ret2
        exact ⟨ret_pair (by rw [V.out, Int.toNat_natCast]) rfl, W.out⟩

/-- May a column of k wheels stand for n? -/
def fitB (n : Int) (k : Nat) : Bool := decide (-hf k ≤ n ∧ n < hf k)
theorem colOfB_fit {n : Int} {k : Nat} (h1 : 1 ≤ k) (h2 : k ≤ 12) : colOfB n (k : Int) = fitB n k := by
  unfold colOfB fitB; rw [decide_eq_true (show 1 ≤ (k : Int) ∧ (k : Int) ≤ 12 by omega), Int.toNat_natCast]; rfl

set_option maxHeartbeats 1000000 in
theorem l1Fits_any (n : Int) (k : Nat) (w : World) (hk1 : 1 ≤ k) (hk2 : k ≤ 12) :
    Calls Tryd.prog 29 #[.int .i64 n, .int .i64 (k : Int)] w fun e w' => e = .returned (.bool (fitB n k)) ∧ w = w' := by
  have p0 := p10_pos k
  have p1 := p10_big hk2
  have f0 := hf_pos hk1
  have fp : 2 * hf k ≤ p10 k := by have := p10_half hk1; omega
  have e2 : p10 k / 2 = hf k := rfl
  by_cases hlo : n < -hf k
  · rw [show fitB n k = false from decide_eq_false (by omega)]
    go_enter Tryd.func29, Tryd.ntmps29
    go_wp2_with (go_at_call 34; refine (l1Ten_any _ _ hk2).mono ?_; rintro e w' ⟨rfl, rfl⟩)
    go_ret
    exact ⟨rfl, rfl⟩
  · by_cases hhi : hf k ≤ n
    · rw [show fitB n k = false from decide_eq_false (by omega)]
      have hlo' : -hf k ≤ n := by omega
      go_enter Tryd.func29, Tryd.ntmps29
      go_wp2_with (go_at_call 34; refine (l1Ten_any _ _ hk2).mono ?_; rintro e w' ⟨rfl, rfl⟩)
      go_ret
      exact ⟨ret_bool (decide_eq_false (by omega)), rfl⟩
    · rw [show fitB n k = true from decide_eq_true (by omega)]
      have hlo' : -hf k ≤ n := by omega
      have hhi' : n < hf k := by omega
      go_enter Tryd.func29, Tryd.ntmps29
      go_wp2_with (go_at_call 34; refine (l1Ten_any _ _ hk2).mono ?_; rintro e w' ⟨rfl, rfl⟩)
      go_ret
      exact ⟨rfl, rfl⟩

set_option maxHeartbeats 1000000 in
theorem columnOf_spec (n width : Int) (w : World) :
    Calls Tryd.prog 17 #[.int .i64 n, .int .i64 width] w fun e w' => e = .returned (.tuple #[.string (str (colOfL n width)), .bool (colOfB n width)]) ∧ Below w.heap.size w w' := by
  cases hb : inB width 1 12
  · have h := inB_false hb
    have hf : colOfB n width = false := by
      rw [Bool.eq_false_iff]; intro hc; have := (colOfB_iff.1 hc).1; omega
    rw [colOfL_no hf, hf]
    have B := Lib.hid hb; clear hb hf
    go_enter Tryd.func17, Tryd.ntmps17
    go_wp2_with (go_at_call 28; refine (l1Width_any _ _).mono ?_; rintro e w' ⟨rfl, rfl⟩; rw [B.out])
    go_ret2
    exact ⟨rfl, Below.refl _ _⟩
  · have h := inB_true hb
    have B := Lib.hid hb; clear hb
    obtain ⟨k, rfl⟩ := Int.eq_ofNat_of_zero_le (show 0 ≤ width by omega)
    have hk1 : 1 ≤ k := by omega
    have hk2 : k ≤ 12 := by omega
    cases hc : fitB n k
    · have hf : colOfB n (k : Int) = false := by rw [colOfB_fit hk1 hk2, hc]
      rw [colOfL_no hf, hf]
      have C := Lib.hid hc; clear hc hf
      go_enter Tryd.func17, Tryd.ntmps17
      go_wp2_with (first | (go_at_call 28; refine (l1Width_any _ _).mono ?_; rintro e w' ⟨rfl, rfl⟩; rw [B.out]) | (go_at_call 29; refine (l1Fits_any _ _ _ hk1 hk2).mono ?_; rintro e w' ⟨rfl, rfl⟩; rw [C.out]))
      go_ret2
      exact ⟨rfl, Below.refl _ _⟩
    · have hf : colOfB n (k : Int) = true := by rw [colOfB_fit hk1 hk2, hc]
      rw [colOfL_yes hf, hf, Int.toNat_natCast]
      have C := Lib.hid hc; clear hc hf
      go_enter Tryd.func17, Tryd.ntmps17
      go_wp2_with (first | (go_at_call 28; refine (l1Width_any _ _).mono ?_; rintro e w' ⟨rfl, rfl⟩; rw [B.out]) | (go_at_call 29; refine (l1Fits_any _ _ _ hk1 hk2).mono ?_; rintro e w' ⟨rfl, rfl⟩; rw [C.out]) | (go_at_call 30; refine (l1Show_any _ _ _ hk1 hk2).mono ?_; rintro e w' ⟨rfl, hw⟩; have W := Lib.hid hw; clear hw))
      go_ret2
      exact ⟨rfl, W.out⟩

set_option maxHeartbeats 1000000 in
theorem signedOf_impl (s : ByteArray) (w : World) (hs : s.size ≤ maxLen) :
    Calls Tryd.prog 11 #[.string s] w fun e w' => e = .returned (.tuple #[.int .i64 (sgnOf (bl s)), .bool (colB (bl s))]) ∧ w = w' := by
  cases hb : colB (bl s)
  · rw [sgnOf_no hb]
    have B := Lib.hid hb; clear hb
    go_enter Tryd.func11, Tryd.ntmps11
    go_wp2_with (go_at_call 13; refine (columnValid_impl _ _ hs).mono ?_; rintro e w' ⟨rfl, rfl⟩; rw [B.out])
    go_ret2
    exact ⟨rfl, rfl⟩
  · have hz := col_size hb
    have v0 := val_lt_p10 hb
    rw [length_bl] at v0
    have p1 := p10_big hz.2
    have f0 := hf_pos hz.1
    have e2 : p10 s.size / 2 = hf s.size := rfl
    have VO := Lib.hid (valOf_yes hb)
    by_cases hlt : val (bl s) < hf s.size
    · rw [sgnOf_lo hb (by rw [length_bl]; exact hlt)]
      have B := Lib.hid hb; clear hb
      go_enter Tryd.func11, Tryd.ntmps11
      go_wp2_with (first | (go_at_call 13; refine (columnValid_impl _ _ hs).mono ?_; rintro e w' ⟨rfl, rfl⟩; rw [B.out]) | (go_at_call 24; refine (powerOfTen_any _ _ hz.2).mono ?_; rintro e w' ⟨rfl, rfl⟩) | (go_at_call 15; refine (valueOf_impl _ _ hs).mono ?_; rintro e w' ⟨rfl, rfl⟩; rw [VO.out]))
      go_ret2
      exact ⟨rfl, rfl⟩
    · rw [sgnOf_hi hb (by rw [length_bl]; omega), length_bl]
      have B := Lib.hid hb; clear hb
      have hge : hf s.size ≤ val (bl s) := by omega
      go_enter Tryd.func11, Tryd.ntmps11
      go_wp2_with (first | (go_at_call 13; refine (columnValid_impl _ _ hs).mono ?_; rintro e w' ⟨rfl, rfl⟩; rw [B.out]) | (go_at_call 24; refine (powerOfTen_any _ _ hz.2).mono ?_; rintro e w' ⟨rfl, rfl⟩) | (go_at_call 15; refine (valueOf_impl _ _ hs).mono ?_; rintro e w' ⟨rfl, rfl⟩; rw [VO.out]))
      go_ret2
      exact ⟨rfl, rfl⟩

set_option maxHeartbeats 1000000 in
theorem l1Signed_any (s : ByteArray) (w : World) (hb : colB (bl s) = true) :
    Calls Tryd.prog 21 #[.string s] w fun e w' => e = .returned (.int .i64 (sgnOf (bl s))) ∧ w = w' := by
  have hz := col_size hb
  have v0 := val_lt_p10 hb
  rw [length_bl] at v0
  have p1 := p10_big hz.2
  have f0 := hf_pos hz.1
  have e2 : p10 s.size / 2 = hf s.size := rfl
  by_cases hlt : val (bl s) < hf s.size
  · rw [sgnOf_lo hb (by rw [length_bl]; exact hlt)]
    have B := Lib.hid hb; clear hb
    go_enter Tryd.func21, Tryd.ntmps21
    go_wp2_with (first | (go_at_call 33; refine (l1Value_any _ _ hz.2 (colB_dig B.out)).mono ?_; rintro e w' ⟨rfl, rfl⟩) | (go_at_call 34; refine (l1Ten_any _ _ hz.2).mono ?_; rintro e w' ⟨rfl, rfl⟩))
    go_ret
    exact ⟨rfl, rfl⟩
  · rw [sgnOf_hi hb (by rw [length_bl]; omega), length_bl]
    have B := Lib.hid hb; clear hb
    have hge : hf s.size ≤ val (bl s) := by omega
    go_enter Tryd.func21, Tryd.ntmps21
    go_wp2_with (first | (go_at_call 33; refine (l1Value_any _ _ hz.2 (colB_dig B.out)).mono ?_; rintro e w' ⟨rfl, rfl⟩) | (go_at_call 34; refine (l1Ten_any _ _ hz.2).mono ?_; rintro e w' ⟨rfl, rfl⟩))
    go_ret
    exact ⟨rfl, rfl⟩

set_option maxHeartbeats 1000000 in
theorem signedOf_spec (s : ByteArray) (w : World) (hs : s.size ≤ maxLen) :
    Calls Tryd.prog 12 #[.string s] w fun e w' => e = .returned (.tuple #[.int .i64 (sgnOf (bl s)), .bool (colB (bl s))]) ∧ w = w' := by
  cases hb : colB (bl s)
  · rw [sgnOf_no hb]
    have B := Lib.hid hb; clear hb
    go_enter Tryd.func12, Tryd.ntmps12
    go_wp2_with (go_at_call 19; refine (columnValid_spec _ _ hs).mono ?_; rintro e w' ⟨rfl, rfl⟩; rw [B.out])
    go_ret2
    exact ⟨rfl, rfl⟩
  · have B := Lib.hid hb; clear hb
    go_enter Tryd.func12, Tryd.ntmps12
    go_wp2_with (first | (go_at_call 19; refine (columnValid_spec _ _ hs).mono ?_; rintro e w' ⟨rfl, rfl⟩; rw [B.out]) | (go_at_call 21; refine (l1Signed_any _ _ B.out).mono ?_; rintro e w' ⟨rfl, rfl⟩))
    go_ret2
    exact ⟨rfl, rfl⟩