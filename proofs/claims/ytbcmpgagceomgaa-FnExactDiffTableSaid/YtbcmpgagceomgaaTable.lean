/- The walks of both texts of DiffsOf and LeastDegree. -/
import Derived.Test.YtbcmpgagceomgaaFirsts
import Derived.Test.YtbcmpgagceomgaaDegree
namespace Go.Proofs.Ytbcmpgagceomgaa
open Go.RowKit

theorem tvI (A : Option Addr) (n cap : Nat) (xs : List Int) (w : World) (B : Nat) (hr : Row w B A xs) (hn : n = xs.length) (hx : n ≤ 10000000) :
    Calls Try.prog 40 #[.slice A n cap] w fun e w' => e = .returned (.bool (tableB xs)) ∧ w = w' := by
  subst hn; exact tableValid_impl A cap xs w B hr (by omega)

theorem tvS (A : Option Addr) (n cap : Nat) (xs : List Int) (w : World) (B : Nat) (hr : Row w B A xs) (hn : n = xs.length) (hx : n ≤ 10000000) :
    Calls Try.prog 59 #[.slice A n cap] w fun e w' => e = .returned (.bool (tableB xs)) ∧ w = w' := by
  subst hn; exact tableValid_spec A cap xs w B hr (by omega)

theorem table_len {xs : List Int} (h : tableB xs = true) : 1 ≤ xs.length ∧ xs.length ≤ 60 := (listB_iff.1 h).1
theorem table_bd {xs : List Int} (h : tableB xs = true) : ∀ x ∈ xs, -1000000000 ≤ x ∧ x ≤ 1000000000 := (listB_iff.1 h).2
/-- A table of at most 30 numbers. -/
def shortB (xs : List Int) : Bool := tableB xs && decide (xs.length ≤ 30)
def diffsP (xs : List Int) : List Int := if shortB xs = true then firsts xs else []
theorem diffsP_yes {xs : List Int} (h : shortB xs = true) : diffsP xs = firsts xs := if_pos h
theorem diffsP_no {xs : List Int} (h : shortB xs = false) : diffsP xs = [] := by unfold diffsP; rw [h]; rfl
theorem diffsP_length (xs : List Int) : (diffsP xs).length ≤ 30 := by
  cases h : shortB xs
  · rw [diffsP_no h]; decide
  · rw [diffsP_yes h, firsts_length]
    unfold shortB at h
    exact of_decide_eq_true (Bool.and_eq_true_iff.1 h).2
theorem pow30 {n : Nat} (h : n ≤ 30) : (1000000000 : Int) * 2 ^ n ≤ 16000000000000000000 := by
  have h4 : (2 : Nat) ^ n ≤ 2 ^ 30 := Nat.pow_le_pow_right (by decide) h
  have e4 : ((2 ^ n : Nat) : Int) = (2 : Int) ^ n := by rw [Int.natCast_pow]; rfl
  rw [← e4]
  have e30 : (2 : Nat) ^ 30 = 1073741824 := by decide
  rw [e30] at h4
  omega

set_option maxHeartbeats 1000000 in
theorem l2Short_any (A : Option Addr) (n cap : Nat) (xs : List Int) (w : World) (B : Nat) (hr : Row w B A xs) (hn : n = xs.length) (hx : n ≤ 10000000) :
    Calls Try.prog 55 #[.slice A n cap] w fun e w' => e = .returned (.bool (shortB xs)) ∧ w = w' := by
  cases h : tableB xs
  · rw [show shortB xs = false by unfold shortB; rw [h]; rfl]
    have N := Lib.hid hn; have R := Lib.hid hr; have H := Lib.hid h; clear hn hr h
    go_enter Try.func55, Try.ntmps55
    go_wp2_with (go_at_call 59; refine (tvS _ _ _ xs _ _ R.out N.out hx).mono ?_; rintro e w' ⟨rfl, rfl⟩; rw [H.out])
    go_ret
    exact ⟨rfl, rfl⟩
  · by_cases h30 : n ≤ 30
    · rw [show shortB xs = true by unfold shortB; rw [h, decide_eq_true (by omega)]; rfl]
      have N := Lib.hid hn; have R := Lib.hid hr; have H := Lib.hid h; clear hn hr h
      go_enter Try.func55, Try.ntmps55
      go_wp2_with (go_at_call 59; refine (tvS _ _ _ xs _ _ R.out N.out hx).mono ?_; rintro e w' ⟨rfl, rfl⟩; rw [H.out])
      go_ret
      exact ⟨ret_bool (decide_eq_true (by omega)), rfl⟩
    · rw [show shortB xs = false by unfold shortB; rw [h, decide_eq_false (by omega)]; rfl]
      have N := Lib.hid hn; have R := Lib.hid hr; have H := Lib.hid h; clear hn hr h
      go_enter Try.func55, Try.ntmps55
      go_wp2_with (go_at_call 59; refine (tvS _ _ _ xs _ _ R.out N.out hx).mono ?_; rintro e w' ⟨rfl, rfl⟩; rw [H.out])
      go_ret
      exact ⟨ret_bool (decide_eq_false (by omega)), rfl⟩

theorem short_parts {xs : List Int} (h : shortB xs = true) : tableB xs = true ∧ xs.length ≤ 30 := by
  unfold shortB at h
  have h2 := Bool.and_eq_true_iff.1 h
  exact ⟨h2.1, of_decide_eq_true h2.2⟩

/-- The least degree, f rounds left. -/
def ldeg (row : List Int) : Nat → Int
  | 0 => 7
  | f + 1 => if allB row 0 = true then 6 - (f : Int) else ldeg (nextD row) f
theorem ldeg_yes {row : List Int} {f : Nat} (h : allB row 0 = true) : ldeg row (f + 1) = 6 - (f : Int) := if_pos h
theorem ldeg_no {row : List Int} {f : Nat} (h : allB row 0 = false) : ldeg row (f + 1) = ldeg (nextD row) f := by
  show (if allB row 0 = true then _ else _) = _
  rw [h]; rfl
def leastD (xs : List Int) : Int := if tableB xs = true then ldeg xs 8 else -2
theorem leastD_no {xs : List Int} (h : tableB xs = false) : leastD xs = -2 := by unfold leastD; rw [h]; rfl
theorem leastD_yes {xs : List Int} (h : tableB xs = true) : leastD xs = ldeg xs 8 := if_pos h

/-- The state of the loop of LeastDegree: f rounds are left, z is the degree that is tried; last: the degree behind the loop. -/
def Least (w : World) (xs : List Int) (last : Int) (r k : Value) (wr : World) : Prop :=
  ∃ (row : List Int) (K z : Int) (f n2 c2 : Nat) (A2 : Option Addr), r = .slice A2 n2 c2 ∧ k = .int .i64 z ∧ n2 = row.length ∧ n2 ≤ 1000 ∧ z = 7 - (f : Int) ∧ z ≤ last ∧ -1 ≤ z ∧ ldeg row f = ldeg xs 8 ∧ Row wr wr.heap.size A2 row ∧
    K * 2 ^ f ≤ 256000000000 ∧ 0 ≤ K ∧ (∀ x ∈ row, -K ≤ x ∧ x ≤ K) ∧ Below w.heap.size w wr
theorem least_bd {row : List Int} {K : Int} {f : Nat} (hK : K * 2 ^ f ≤ 256000000000) (h0 : 0 ≤ K) (hb : ∀ x ∈ row, -K ≤ x ∧ x ≤ K) : ∀ x ∈ row, -4000000000000000000 ≤ x ∧ x ≤ 4000000000000000000 := by
  intro x hx
  have h := hb x hx
  have e : K * 1 ≤ K * 2 ^ f := Int.mul_le_mul_of_nonneg_left (by
    have h4 : (2 : Nat) ^ 0 ≤ 2 ^ f := Nat.pow_le_pow_right (by decide) (Nat.zero_le _)
    have e4 : ((2 ^ f : Nat) : Int) = (2 : Int) ^ f := by rw [Int.natCast_pow]; rfl
    rw [← e4]
    omega) h0
  omega
theorem least_step {w wr w4 : World} {xs row : List Int} {K z last : Int} {f n2 c4 : Nat} {A4 : Option Addr} (e2 : n2 = row.length) (h1000 : n2 ≤ 1000) (hz : z = 7 - ((f + 1 : Nat) : Int)) (hlast : z + 1 ≤ last) (hz1 : -1 ≤ z) (he : ldeg row (f + 1) = ldeg xs 8)
    (ha : allB row 0 = false) (hK : K * 2 ^ (f + 1) ≤ 256000000000) (hK0 : 0 ≤ K) (hbd : ∀ x ∈ row, -K ≤ x ∧ x ≤ K) (hw : Below w.heap.size w wr)
    (ho4 : Own w4 wr.heap.size w4.heap.size (.slice A4 (n2 - 1) c4) (nextD row)) (hb4 : Below wr.heap.size wr w4) :
    Least w xs last (.slice A4 (n2 - 1) c4) (.int .i64 (z + 1)) w4 := by
  refine ⟨nextD row, 2 * K, z + 1, f, n2 - 1, c4, A4, rfl, rfl, by rw [nextD_length, e2], by omega, by omega, hlast, by omega, by rw [← he, ldeg_no ha], ho4.row, ?_, by omega, nextD_bd hbd, hw.trans (hb4.mono hw.size)⟩
  rw [Int.mul_comm 2 K, Int.mul_assoc, Int.mul_comm 2, ← Int.pow_succ]
  exact hK