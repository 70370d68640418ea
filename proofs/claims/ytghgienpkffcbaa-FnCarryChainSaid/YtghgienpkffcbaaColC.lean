/- The walks of both texts of ColumnOf, SignedOf, WidthFor, WidenColumn, AddColumns, SubtractColumns, NegateColumn, CastNines and CastElevens. -/
import Derived.Test.YtghgienpkffcbaaShow
namespace Go.Proofs.Ytghgienpkffcbaa
open Go.RowKit

theorem below_two {w a b : World} (h1 : Below w.heap.size w a) (h2 : Below a.heap.size a b) : Below w.heap.size w b := h1.trans (h2.mono h1.size)
theorem ret_pair {a b : ByteArray} {x y : Bool} (h1 : a = b) (h2 : x = y) : Ending.returned (.tuple #[.string a, .bool x]) = .returned (.tuple #[.string b, .bool y]) := by rw [h1, h2]

/-- May a column of k wheels stand for n? -/
def fitB (n : Int) (k : Nat) : Bool := decide (-hf k ≤ n ∧ n < hf k)
theorem colOfB_fit {n : Int} {k : Nat} (h1 : 1 ≤ k) (h2 : k ≤ 12) : colOfB n (k : Int) = fitB n k := by
  unfold colOfB fitB; rw [decide_eq_true (show 1 ≤ (k : Int) ∧ (k : Int) ≤ 12 by omega), Int.toNat_natCast]; rfl

set_option maxHeartbeats 1000000 in
theorem alike_any (a b : ByteArray) (w : World) (ha : a.size ≤ maxLen) (hb : b.size ≤ maxLen) :
    Calls Try.prog 42 #[.string a, .string b] w fun e w' => e = .returned (.bool (alikeB (bl a) (bl b))) ∧ w = w' := by
  cases h1 : colB (bl a)
  · rw [show alikeB (bl a) (bl b) = false by unfold alikeB; rw [h1]; rfl]
    have H1 := Lib.hid h1; clear h1
    go_enter Try.func42, Try.ntmps42
    go_wp2_with (go_at_call 40; refine (columnValid_impl _ _ (by assumption)).mono ?_; rintro e w' ⟨rfl, rfl⟩; rw [H1.out])
    go_ret
    exact ⟨rfl, rfl⟩
  · cases h2 : colB (bl b)
    · rw [show alikeB (bl a) (bl b) = false by unfold alikeB; rw [h1, h2]; rfl]
      have H1 := Lib.hid h1; have H2 := Lib.hid h2; clear h1 h2
      go_enter Try.func42, Try.ntmps42
      go_wp2_with (go_at_call 40; refine (columnValid_impl _ _ (by assumption)).mono ?_; rintro e w' ⟨rfl, rfl⟩; first | rw [H1.out] | rw [H2.out])
      go_ret
      exact ⟨rfl, rfl⟩
    · rw [show alikeB (bl a) (bl b) = ((a.size : Int) == (b.size : Int)) by unfold alikeB; rw [h1, h2, length_bl, length_bl, Bool.eq_iff_iff]; simp; omega]
      have H1 := Lib.hid h1; have H2 := Lib.hid h2; clear h1 h2
      go_enter Try.func42, Try.ntmps42
      go_wp2_with (go_at_call 40; refine (columnValid_impl _ _ (by assumption)).mono ?_; rintro e w' ⟨rfl, rfl⟩; first | rw [H1.out] | rw [H2.out])
      go_ret
      exact ⟨rfl, rfl⟩

set_option maxHeartbeats 1000000 in
theorem l1Pair_any (a b : ByteArray) (w : World) (ha : a.size ≤ maxLen) (hb : b.size ≤ maxLen) :
    Calls Try.prog 43 #[.string a, .string b] w fun e w' => e = .returned (.bool (alikeB (bl a) (bl b))) ∧ w = w' := by
  cases h1 : colB (bl a)
  · rw [show alikeB (bl a) (bl b) = false by unfold alikeB; rw [h1]; rfl]
    have H1 := Lib.hid h1; clear h1
    go_enter Try.func43, Try.ntmps43
    go_wp2_with (go_at_call 47; refine (columnValid_spec _ _ (by assumption)).mono ?_; rintro e w' ⟨rfl, rfl⟩; rw [H1.out])
    go_ret
    exact ⟨rfl, rfl⟩
  · cases h2 : colB (bl b)
    · rw [show alikeB (bl a) (bl b) = false by unfold alikeB; rw [h1, h2]; rfl]
      have H1 := Lib.hid h1; have H2 := Lib.hid h2; clear h1 h2
      go_enter Try.func43, Try.ntmps43
      go_wp2_with (go_at_call 47; refine (columnValid_spec _ _ (by assumption)).mono ?_; rintro e w' ⟨rfl, rfl⟩; first | rw [H1.out] | rw [H2.out])
      go_ret
      exact ⟨rfl, rfl⟩
    · rw [show alikeB (bl a) (bl b) = ((a.size : Int) == (b.size : Int)) by unfold alikeB; rw [h1, h2, length_bl, length_bl, Bool.eq_iff_iff]; simp; omega]
      have H1 := Lib.hid h1; have H2 := Lib.hid h2; clear h1 h2
      go_enter Try.func43, Try.ntmps43
      go_wp2_with (go_at_call 47; refine (columnValid_spec _ _ (by assumption)).mono ?_; rintro e w' ⟨rfl, rfl⟩; first | rw [H1.out] | rw [H2.out])
      go_ret
      exact ⟨rfl, rfl⟩
end Go.Proofs.Ytghgienpkffcbaa
