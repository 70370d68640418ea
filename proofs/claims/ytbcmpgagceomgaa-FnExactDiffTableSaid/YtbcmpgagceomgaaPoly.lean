/- The walks of both texts of PolyValid and TableValid. -/
import Derived.Test.YtbcmpgagceomgaaLists
import Derived.Test.YtbcmpgagceomgaaBinom
namespace Go.Proofs.Ytbcmpgagceomgaa
open Go.RowKit

/-- All numbers lie between -b and b; and there are 1 to m of them. -/
def allB (xs : List Int) (b : Int) : Bool := xs.all fun x => inB x (-b) b
theorem allB_iff {xs : List Int} {b : Int} : allB xs b = true ↔ ∀ x ∈ xs, -b ≤ x ∧ x ≤ b := by
  simp [allB, inB]
theorem allB_bad {xs : List Int} {b : Int} {k : Nat} (h : k < xs.length) (hb : inB xs[k] (-b) b = false) : allB xs b = false := by
  rw [Bool.eq_false_iff]; intro ha
  have h1 := allB_iff.1 ha xs[k] (List.getElem_mem h)
  have h2 := inB_false hb
  omega
theorem all_snoc {P : Int → Prop} {xs : List Int} {k : Nat} (h : k < xs.length) (h1 : ∀ x ∈ xs.take k, P x) (h2 : P xs[k]) : ∀ x ∈ xs.take (k + 1), P x := by
  rw [List.take_succ_eq_append_getElem h]
  intro x hx
  rcases List.mem_append.1 hx with hx | hx
  · exact h1 x hx
  · rw [List.mem_singleton.1 hx]; exact h2
def listB (xs : List Int) (m : Nat) (b : Int) : Bool := inB xs.length 1 m && allB xs b
def polyB (xs : List Int) : Bool := listB xs 7 100000
def tableB (xs : List Int) : Bool := listB xs 60 1000000000
theorem listB_iff {xs : List Int} {m : Nat} {b : Int} : listB xs m b = true ↔ (1 ≤ xs.length ∧ xs.length ≤ m) ∧ ∀ x ∈ xs, -b ≤ x ∧ x ≤ b := by
  unfold listB
  rw [Bool.and_eq_true, allB_iff]
  constructor
  · rintro ⟨h, h2⟩
    have := inB_true h
    exact ⟨⟨by omega, by omega⟩, h2⟩
  · rintro ⟨h, h2⟩
    exact ⟨inB_mk (by omega) (by omega), h2⟩

set_option maxHeartbeats 1000000 in
theorem allWithin_any (A : Option Addr) (cap : Nat) (xs : List Int) (b : Int) (w : World) (B : Nat) (hr : Row w B A xs) (hx : xs.length ≤ 1000000000) (h0 : 0 ≤ b) (h1 : b ≤ 1000000000000) :
    Calls Try.prog 54 #[.slice A xs.length cap, .int .i64 b] w fun e w' => e = .returned (.bool (allB xs b)) ∧ w = w' := by
  have R := Lib.hid hr; clear hr
  go_enter Try.func54, Try.ntmps54
  go_wp2
  go_loop [9] (fun i => ∃ k : Nat, k ≤ xs.length ∧ i = .int .i64 k ∧ Hid (∀ x ∈ xs.take k, -b ≤ x ∧ x ≤ b)) (fun i => xs.length - (intOf i).toNat)
  case atStart => exact ⟨0, Nat.zero_le _, rfl, fun x hx => by simp at hx⟩
  case round =>
    obtain ⟨k, hk, rfl, H⟩ := hrel
    by_cases hlt : k < xs.length
    · obtain ⟨ba, o, rfl, hbw, hc⟩ := R.out k hlt
      cases hb : inB xs[k] (-b) b
      · have hf := allB_bad hlt hb
        have HF := Lib.hid hf; have HB := Lib.hid hb; clear hf hb
        go_wp2_with (go_at_call 35; refine (within_any _ _ _ h0 h1).mono ?_; rintro e w' ⟨rfl, rfl⟩; rw [HB.out])
        go_ret
        exact ⟨ret_bool HF.out.symm, rfl⟩
      · have H2 : Hid (∀ x ∈ xs.take (k + 1), -b ≤ x ∧ x ≤ b) := all_snoc hlt H.out (inB_true hb)
        have HB := Lib.hid hb; clear hb
        go_wp2_with (go_at_call 35; refine (within_any _ _ _ h0 h1).mono ?_; rintro e w' ⟨rfl, rfl⟩; rw [HB.out])
        go_round
        case rel => exact ⟨k + 1, by omega, by go_num, H2⟩
        case measure => simp [intOf]; omega
    · obtain rfl : k = xs.length := by omega
      go_wp2
      go_ret
      have h := H.out
      rw [List.take_of_length_le (Nat.le_refl _)] at h
      exact ⟨ret_bool (allB_iff.2 h).symm, rfl⟩

set_option maxHeartbeats 1000000 in
theorem polyValid_impl (A : Option Addr) (cap : Nat) (xs : List Int) (w : World) (B : Nat) (hr : Row w B A xs) (hx : xs.length ≤ 1000000000) :
    Calls Try.prog 34 #[.slice A xs.length cap] w fun e w' => e = .returned (.bool (polyB xs)) ∧ w = w' := by
  have R := Lib.hid hr; clear hr
  by_cases h1 : 1 ≤ xs.length
  · by_cases h2 : xs.length ≤ 7
    · rw [show polyB xs = allB xs 100000 by unfold polyB listB; rw [inB_mk (by omega) (by omega)]; rfl]
      go_enter Try.func34, Try.ntmps34
      go_wp2_with (go_at_call 54; refine (allWithin_any _ _ xs _ _ _ R.out hx (by decide) (by decide)).mono ?_; rintro e w' ⟨rfl, rfl⟩)
      go_ret
      exact ⟨rfl, rfl⟩
    · rw [show polyB xs = false by unfold polyB listB; rw [inB_no (by omega)]; rfl]
      go_enter Try.func34, Try.ntmps34
      go_wp2_with fail
      go_ret
      exact ⟨rfl, rfl⟩
  · rw [show polyB xs = false by unfold polyB listB; rw [inB_no (by omega)]; rfl]
    go_enter Try.func34, Try.ntmps34
    go_wp2_with fail
    go_ret
    exact ⟨rfl, rfl⟩

set_option maxHeartbeats 1000000 in
theorem tableValid_impl (A : Option Addr) (cap : Nat) (xs : List Int) (w : World) (B : Nat) (hr : Row w B A xs) (hx : xs.length ≤ 1000000000) :
    Calls Try.prog 40 #[.slice A xs.length cap] w fun e w' => e = .returned (.bool (tableB xs)) ∧ w = w' := by
  have R := Lib.hid hr; clear hr
  by_cases h1 : 1 ≤ xs.length
  · by_cases h2 : xs.length ≤ 60
    · rw [show tableB xs = allB xs 1000000000 by unfold tableB listB; rw [inB_mk (by omega) (by omega)]; rfl]
      go_enter Try.func40, Try.ntmps40
      go_wp2_with (go_at_call 54; refine (allWithin_any _ _ xs _ _ _ R.out hx (by decide) (by decide)).mono ?_; rintro e w' ⟨rfl, rfl⟩)
      go_ret
      exact ⟨rfl, rfl⟩
    · rw [show tableB xs = false by unfold tableB listB; rw [inB_no (by omega)]; rfl]
      go_enter Try.func40, Try.ntmps40
      go_wp2_with fail
      go_ret
      exact ⟨rfl, rfl⟩
  · rw [show tableB xs = false by unfold tableB listB; rw [inB_no (by omega)]; rfl]
    go_enter Try.func40, Try.ntmps40
    go_wp2_with fail
    go_ret
    exact ⟨rfl, rfl⟩

set_option maxHeartbeats 1000000 in
theorem polyValid_spec (A : Option Addr) (cap : Nat) (xs : List Int) (w : World) (B : Nat) (hr : Row w B A xs) (hx : xs.length ≤ 1000000000) :
    Calls Try.prog 30 #[.slice A xs.length cap] w fun e w' => e = .returned (.bool (polyB xs)) ∧ w = w' := by
  have R := Lib.hid hr; clear hr
  go_enter Try.func30, Try.ntmps30
  go_wp2
  go_loop [3] (fun i => ∃ k : Nat, k ≤ xs.length ∧ i = .int .i64 k ∧ Hid (∀ x ∈ xs.take k, -100000 ≤ x ∧ x ≤ 100000)) (fun i => xs.length - (intOf i).toNat)
  case atStart => exact ⟨0, Nat.zero_le _, rfl, fun x hx => by simp at hx⟩
  case round =>
    obtain ⟨k, hk, rfl, H⟩ := hrel
    by_cases hlt : k < xs.length
    · obtain ⟨ba, o, rfl, hbw, hc⟩ := R.out k hlt
      cases hb : inB xs[k] (-100000) 100000
      · have hf : polyB xs = false := by unfold polyB listB; rw [allB_bad hlt hb, Bool.and_false]
        have HF := Lib.hid hf; have HB := Lib.hid hb; clear hf hb
        go_wp2_with (go_at_call 50; refine (l1In_any _ _ _ _).mono ?_; rintro e w' ⟨rfl, rfl⟩; rw [HB.out])
        go_ret
        exact ⟨ret_bool HF.out.symm, rfl⟩
      · have H2 : Hid (∀ x ∈ xs.take (k + 1), -100000 ≤ x ∧ x ≤ 100000) := all_snoc hlt H.out (inB_true hb)
        have HB := Lib.hid hb; clear hb
        go_wp2_with (go_at_call 50; refine (l1In_any _ _ _ _).mono ?_; rintro e w' ⟨rfl, rfl⟩; rw [HB.out])
        go_round
        case rel => exact ⟨k + 1, by omega, by go_num, H2⟩
        case measure => simp [intOf]; omega
    · obtain rfl : k = xs.length := by omega
      go_wp2_with (go_at_call 50; refine (l1In_any _ _ _ _).mono ?_; rintro e w' ⟨rfl, rfl⟩)
      go_ret
      have h := H.out
      rw [List.take_of_length_le (Nat.le_refl _)] at h
      exact ⟨ret_bool (by unfold polyB listB; rw [allB_iff.2 h, Bool.and_true]; rfl), rfl⟩

set_option maxHeartbeats 1000000 in
theorem tableValid_spec (A : Option Addr) (cap : Nat) (xs : List Int) (w : World) (B : Nat) (hr : Row w B A xs) (hx : xs.length ≤ 1000000000) :
    Calls Try.prog 59 #[.slice A xs.length cap] w fun e w' => e = .returned (.bool (tableB xs)) ∧ w = w' := by
  have R := Lib.hid hr; clear hr
  go_enter Try.func59, Try.ntmps59
  go_wp2
  go_loop [3] (fun i => ∃ k : Nat, k ≤ xs.length ∧ i = .int .i64 k ∧ Hid (∀ x ∈ xs.take k, -1000000000 ≤ x ∧ x ≤ 1000000000)) (fun i => xs.length - (intOf i).toNat)
  case atStart => exact ⟨0, Nat.zero_le _, rfl, fun x hx => by simp at hx⟩
  case round =>
    obtain ⟨k, hk, rfl, H⟩ := hrel
    by_cases hlt : k < xs.length
    · obtain ⟨ba, o, rfl, hbw, hc⟩ := R.out k hlt
      cases hb : inB xs[k] (-1000000000) 1000000000
      · have hf : tableB xs = false := by unfold tableB listB; rw [allB_bad hlt hb, Bool.and_false]
        have HF := Lib.hid hf; have HB := Lib.hid hb; clear hf hb
        go_wp2_with (go_at_call 50; refine (l1In_any _ _ _ _).mono ?_; rintro e w' ⟨rfl, rfl⟩; rw [HB.out])
        go_ret
        exact ⟨ret_bool HF.out.symm, rfl⟩
      · have H2 : Hid (∀ x ∈ xs.take (k + 1), -1000000000 ≤ x ∧ x ≤ 1000000000) := all_snoc hlt H.out (inB_true hb)
        have HB := Lib.hid hb; clear hb
        go_wp2_with (go_at_call 50; refine (l1In_any _ _ _ _).mono ?_; rintro e w' ⟨rfl, rfl⟩; rw [HB.out])
        go_round
        case rel => exact ⟨k + 1, by omega, by go_num, H2⟩
        case measure => simp [intOf]; omega
    · obtain rfl : k = xs.length := by omega
      go_wp2_with (go_at_call 50; refine (l1In_any _ _ _ _).mono ?_; rintro e w' ⟨rfl, rfl⟩)
      go_ret
      have h := H.out
      rw [List.take_of_length_le (Nat.le_refl _)] at h
      exact ⟨ret_bool (by unfold tableB listB; rw [allB_iff.2 h, Bool.and_true]; rfl), rfl⟩
end Go.Proofs.Ytbcmpgagceomgaa
