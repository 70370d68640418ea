/- The walks of both texts of the value of a polynomial. -/
import Derived.Test.YtbcmpgagceomgaaPolyA
import Derived.Test.YtbcmpgagceomgaaEvalPlain
namespace Go.Proofs.Ytbcmpgagceomgaa
open Go.RowKit

set_option maxHeartbeats 1000000 in
theorem valueAt_any (A : Option Addr) (n cap : Nat) (xs : List Int) (z : Int) (w : World) (B : Nat) (hr : Row w B A xs) (hn : n = xs.length) (h7 : n ≤ 7) (hb : ∀ x ∈ xs, -100000 ≤ x ∧ x ≤ 100000) (z1 : -206 ≤ z) (z2 : z ≤ 206) :
    Calls Try.prog 36 #[.slice A n cap, .int .i64 z] w fun e w' => e = .returned (.int .i64 (evZ xs z)) ∧ w = w' := by
  have N := Lib.hid hn; have R := Lib.hid hr; have HB := Lib.hid hb; clear hn hr hb
  go_enter Try.func36, Try.ntmps36
  go_wp2_with fail
  go_loop [5, 10] (fun s i => ∃ j : Nat, j ≤ n ∧ i = .int .i64 j ∧ s = .int .i64 (evT xs z j)) (fun _ i => n - (intOf i).toNat)
  case atStart => exact ⟨0, Nat.zero_le _, rfl, rfl⟩
  case round =>
    obtain ⟨j, hj, rfl, rfl⟩ := hrel
    by_cases hlt : j < n
    · have hlx : j < xs.length := by have := N.out; omega
      obtain ⟨b, o, rfl, _, hc⟩ := R.out j hlx
      have t1 := term_bd HB.out z1 z2 hlx (by have := N.out; omega)
      have t2 := evT_small HB.out z1 z2 (by have := N.out; omega) j (by omega)
      have ST := Lib.hid (evT_step (n := z) hlx)
      go_wp2_with (go_at_call 49; refine (choose_impl _ _ _ (by omega) (by omega) (by omega)).mono ?_; rintro e w' ⟨rfl, rfl⟩)
      go_round
      case rel => exact ⟨j + 1, by omega, by go_num, by rw [ST.out]⟩
      case measure => simp [intOf] <;> omega
    · obtain rfl : j = n := by omega
      go_wp2_with fail
      go_ret
      exact ⟨ret_int (by unfold evZ; rw [← N.out]), rfl⟩

set_option maxHeartbeats 1000000 in
theorem l2Eval_any (A : Option Addr) (n cap : Nat) (xs : List Int) (z : Int) (w : World) (hr : Row w w.heap.size A xs) (hn : n = xs.length) (h7 : n ≤ 7) (hb : ∀ x ∈ xs, -100000 ≤ x ∧ x ≤ 100000) (z1 : -206 ≤ z) (z2 : z ≤ 206) :
    Calls Try.prog 43 #[.slice A n cap, .int .i64 z] w fun e w' => e = .returned (.int .i64 (evZ xs z)) ∧ ∃ m, w' = w.drewN m := by
  have N := Lib.hid hn; have R := Lib.hid hr; have HB := Lib.hid hb; clear hn hr hb
  go_enter Try.func43, Try.ntmps43
  go_wp2_with fail
  go_loopw [5, 6] (fun s i wr => ∃ j m : Nat, j ≤ n ∧ i = .int .i64 j ∧ s = .int .i64 (evT xs z j) ∧ wr = w.drewN m) (fun _ i _ => n - (intOf i).toNat)
  case atStart => exact ⟨0, 0, Nat.zero_le _, rfl, rfl, rfl⟩
  case round =>
    obtain ⟨j, m, hj, rfl, rfl, rfl⟩ := hrel
    by_cases hlt : j < n
    · have hlx : j < xs.length := by have := N.out; omega
      obtain ⟨b, o, rfl, _, hc⟩ := R.out j hlx
      have t1 := term_bd HB.out z1 z2 hlx (by have := N.out; omega)
      have t2 := evT_small HB.out z1 z2 (by have := N.out; omega) j (by omega)
      have ST := Lib.hid (evT_step (n := z) hlx)
      have C := Lib.hid (fun W => choose_spec z j W (by omega) (by omega) (by omega))
      go_wp2_with fail
      go_quiet ((go_at_call 51; exact quiet_ll (C.out _)))
      go_wp2_with fail
      go_roundw
      case rel => exact ⟨j + 1, _, by omega, by go_num, by rw [ST.out], rfl⟩
      case measure => simp [intOf] <;> omega
    · obtain rfl : j = n := by omega
      go_wp2_with fail
      go_ret
      exact ⟨ret_int (by unfold evZ; rw [← N.out]), m, rfl⟩

/-- What EvalPoly returns. -/
def evB (xs : List Int) (z : Int) : Bool := polyB xs && inB z (-200) 200
def evV (xs : List Int) (z : Int) : Int := if evB xs z = true then evZ xs z else 0
theorem evV_no {xs : List Int} {z : Int} (h : evB xs z = false) : evV xs z = 0 := by unfold evV; rw [h]; rfl
theorem evV_yes {xs : List Int} {z : Int} (h : evB xs z = true) : evV xs z = evZ xs z := if_pos h

set_option maxHeartbeats 1000000 in
theorem evalPoly_impl (A : Option Addr) (n cap : Nat) (xs : List Int) (z : Int) (w : World) (B : Nat) (hr : Row w B A xs) (hn : n = xs.length) (hx : n ≤ 10000000) :
    Calls Try.prog 26 #[.slice A n cap, .int .i64 z] w fun e w' => e = .returned (.tuple #[.int .i64 (evV xs z), .bool (evB xs z)]) ∧ w = w' := by
  cases h : polyB xs
  · have hf : evB xs z = false := by unfold evB; rw [h]; rfl
    rw [evV_no hf, hf]
    have N := Lib.hid hn; have R := Lib.hid hr; have H := Lib.hid h; clear hn hr h hf
    go_enter Try.func26, Try.ntmps26
    go_wp2_with (go_at_call 34; refine (pvI _ _ _ xs _ _ R.out N.out hx).mono ?_; rintro e w' ⟨rfl, rfl⟩; rw [H.out])
    go_ret2
    exact ⟨rfl, rfl⟩
  · cases h2 : inB z (-200) 200
    · have hf : evB xs z = false := by unfold evB; rw [h, h2]; rfl
      rw [evV_no hf, hf]
      have N := Lib.hid hn; have R := Lib.hid hr; have H := Lib.hid h; have H2 := Lib.hid h2; clear hn hr h h2 hf
      go_enter Try.func26, Try.ntmps26
      go_wp2_with (first | (go_at_call 34; refine (pvI _ _ _ xs _ _ R.out N.out hx).mono ?_; rintro e w' ⟨rfl, rfl⟩; rw [H.out]) | (go_at_call 35; refine (within_any _ _ _ (by decide) (by decide)).mono ?_; rintro e w' ⟨rfl, rfl⟩; rw [H2.out]))
      go_ret2
      exact ⟨rfl, rfl⟩
    · have hf : evB xs z = true := by unfold evB; rw [h, h2]; rfl
      rw [evV_yes hf, hf]
      have hz := inB_true h2
      have hl := poly_len h
      have N := Lib.hid hn; have R := Lib.hid hr; have H := Lib.hid h; have H2 := Lib.hid h2; have PB := Lib.hid (poly_bd h); clear hn hr h h2 hf
      go_enter Try.func26, Try.ntmps26
      go_wp2_with (first | (go_at_call 34; refine (pvI _ _ _ xs _ _ R.out N.out hx).mono ?_; rintro e w' ⟨rfl, rfl⟩; rw [H.out]) | (go_at_call 35; refine (within_any _ _ _ (by decide) (by decide)).mono ?_; rintro e w' ⟨rfl, rfl⟩; rw [H2.out]) | (go_at_call 36; refine (valueAt_any _ _ _ xs _ _ _ R.out N.out (by have := N.out; omega) PB.out (by omega) (by omega)).mono ?_; rintro e w' ⟨rfl, rfl⟩))
      go_ret2
      exact ⟨rfl, rfl⟩

set_option maxHeartbeats 1000000 in
theorem evalPoly_spec (A : Option Addr) (n cap : Nat) (xs : List Int) (z : Int) (w : World) (hr : Row w w.heap.size A xs) (hn : n = xs.length) (hx : n ≤ 10000000) :
    Calls Try.prog 27 #[.slice A n cap, .int .i64 z] w fun e w' => e = .returned (.tuple #[.int .i64 (evV xs z), .bool (evB xs z)]) ∧ ∃ m, w' = w.drewN m := by
  cases h : polyB xs
  · have hf : evB xs z = false := by unfold evB; rw [h]; rfl
    rw [evV_no hf, hf]
    have N := Lib.hid hn; have R := Lib.hid hr; have H := Lib.hid h; clear hn hr h hf
    go_enter Try.func27, Try.ntmps27
    go_wp2_with (go_at_call 30; refine (pvS _ _ _ xs _ _ R.out N.out hx).mono ?_; rintro e w' ⟨rfl, rfl⟩; rw [H.out])
    go_ret2
    exact ⟨rfl, 0, rfl⟩
  · cases h2 : inB z (-200) 200
    · have hf : evB xs z = false := by unfold evB; rw [h, h2]; rfl
      rw [evV_no hf, hf]
      have N := Lib.hid hn; have R := Lib.hid hr; have H := Lib.hid h; have H2 := Lib.hid h2; clear hn hr h h2 hf
      go_enter Try.func27, Try.ntmps27
      go_wp2_with (first | (go_at_call 30; refine (pvS _ _ _ xs _ _ R.out N.out hx).mono ?_; rintro e w' ⟨rfl, rfl⟩; rw [H.out]) | (go_at_call 31; refine (l2Argument_any _ _).mono ?_; rintro e w' ⟨rfl, rfl⟩; rw [H2.out]))
      go_ret2
      exact ⟨rfl, 0, rfl⟩
    · have hf : evB xs z = true := by unfold evB; rw [h, h2]; rfl
      rw [evV_yes hf, hf]
      have hz := inB_true h2
      have hl := poly_len h
      have N := Lib.hid hn; have R := Lib.hid hr; have H := Lib.hid h; have H2 := Lib.hid h2; have PB := Lib.hid (poly_bd h); clear hn hr h h2 hf
      go_enter Try.func27, Try.ntmps27
      go_wp2_with (first | (go_at_call 30; refine (pvS _ _ _ xs _ _ R.out N.out hx).mono ?_; rintro e w' ⟨rfl, rfl⟩; rw [H.out]) | (go_at_call 31; refine (l2Argument_any _ _).mono ?_; rintro e w' ⟨rfl, rfl⟩; rw [H2.out]) | (go_at_call 43; refine (l2Eval_any _ _ _ xs _ _ R.out N.out (by have := N.out; omega) PB.out (by omega) (by omega)).mono ?_; rintro e w' ⟨rfl, m, rfl⟩))
      go_ret2
      exact ⟨rfl, m, rfl⟩
end Go.Proofs.Ytbcmpgagceomgaa
