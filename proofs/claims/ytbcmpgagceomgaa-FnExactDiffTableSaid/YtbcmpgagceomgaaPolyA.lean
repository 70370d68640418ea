/- The walks of what copies a list, and of both texts of SumPoly, DifferencePoly, TrimPoly and DegreeOf. -/
import Derived.Test.YtbcmpgagceomgaaMark
import Derived.Test.YtbcmpgagceomgaaPoly
namespace Go.Proofs.Ytbcmpgagceomgaa
open Go.RowKit

theorem pvI (A : Option Addr) (n cap : Nat) (xs : List Int) (w : World) (B : Nat) (hr : Row w B A xs) (hn : n = xs.length) (hx : n ≤ 10000000) :
    Calls Try.prog 34 #[.slice A n cap] w fun e w' => e = .returned (.bool (polyB xs)) ∧ w = w' := by
  subst hn; exact polyValid_impl A cap xs w B hr (by omega)

theorem pvS (A : Option Addr) (n cap : Nat) (xs : List Int) (w : World) (B : Nat) (hr : Row w B A xs) (hn : n = xs.length) (hx : n ≤ 10000000) :
    Calls Try.prog 30 #[.slice A n cap] w fun e w' => e = .returned (.bool (polyB xs)) ∧ w = w' := by
  subst hn; exact polyValid_spec A cap xs w B hr (by omega)

/-- A polynomial has an address. -/
theorem poly_addr {w : World} {B : Nat} {A : Option Addr} {xs : List Int} (hr : Row w B A xs) (h : 1 ≤ xs.length) : ∃ b o, A = some ⟨b, o, none⟩ := by
  obtain ⟨b, o, e, _⟩ := hr 0 (by omega)
  exact ⟨b, o, e⟩
theorem poly_len {xs : List Int} (h : polyB xs = true) : 1 ≤ xs.length ∧ xs.length ≤ 7 := (listB_iff.1 h).1
theorem poly_bd {xs : List Int} (h : polyB xs = true) : ∀ x ∈ xs, -100000 ≤ x ∧ x ≤ 100000 := (listB_iff.1 h).2

set_option maxHeartbeats 1000000 in
theorem clone_any (b o n cap : Nat) (xs : List Int) (w : World) (B : Nat) (hr : Row w B (some ⟨b, o, none⟩) xs) (hB : B ≤ w.heap.size) (hn : n = xs.length) (hx : n ≤ 10000000) :
    Calls Try.prog 41 #[.slice (some ⟨b, o, none⟩) n cap] w (Gives w xs) := by
  have hq := fun W => Lib.run_eql_slice_nil (P := Try.prog) W 22 3 (some ⟨b, o, none⟩) n cap 0 0 Try.underlying22
  have hr2 := hr.keep (w' := w.alloc (.cells #[] 3)) ((Below.refl _ _).alloc hB _)
  have N := Lib.hid hn; have R := Lib.hid hr2; clear hr hr2 hn
  go_enter Try.func41, Try.ntmps41
  go_wp2_with (at_builtin; refine wpList_app rfl _ _ rfl rfl (Own.empty w) (by simp) rfl N.out R.out (by have := N.out; simp; omega) n (by have := N.out; simp; omega) ?_; intro A' c' w' ho hg; have O := Lib.hid ho; have G := Lib.hid (below_new hg); clear ho hg)
  go_ret
  exact Gives.mk rfl N.out O.out G.out

set_option maxHeartbeats 400000 in
theorem checked_yes (A : Option Addr) (n cap : Nat) (xs : List Int) (w : World) (B : Nat) (hr : Row w B A xs) (hn : n = xs.length) (hx : n ≤ 10000000) (h : polyB xs = true) :
    Calls Try.prog 37 #[.slice A n cap] w fun e w' => e = .returned (.tuple #[.slice A n cap, .bool true]) ∧ w = w' := by
  have N := Lib.hid hn; have R := Lib.hid hr; have H := Lib.hid h; clear hn hr h
  go_enter Try.func37, Try.ntmps37
  go_wp2_with (go_at_call 34; refine (pvI _ _ _ xs _ _ R.out N.out hx).mono ?_; rintro e w' ⟨rfl, rfl⟩; rw [H.out])
  go_ret2
  exact ⟨rfl, rfl⟩

set_option maxHeartbeats 400000 in
theorem checked_no (A : Option Addr) (n cap : Nat) (xs : List Int) (w : World) (B : Nat) (hr : Row w B A xs) (hn : n = xs.length) (hx : n ≤ 10000000) (h : polyB xs = false) :
    Calls Try.prog 37 #[.slice A n cap] w fun e w' => e = .returned (.tuple #[.slice none 0 0, .bool false]) ∧ w = w' := by
  have N := Lib.hid hn; have R := Lib.hid hr; have H := Lib.hid h; clear hn hr h
  go_enter Try.func37, Try.ntmps37
  go_wp2_with (go_at_call 34; refine (pvI _ _ _ xs _ _ R.out N.out hx).mono ?_; rintro e w' ⟨rfl, rfl⟩; rw [H.out])
  go_ret2
  exact ⟨rfl, rfl⟩

/-- A list, if it is a polynomial. -/
def keepP (xs : List Int) : List Int := if polyB xs = true then xs else []
theorem keepP_yes {xs : List Int} (h : polyB xs = true) : keepP xs = xs := if_pos h
theorem keepP_no {xs : List Int} (h : polyB xs = false) : keepP xs = [] := by unfold keepP; rw [h]; rfl

theorem keep_no {w w' : World} {L : List Int} {A : Option Addr} {c : Nat} (hp : polyB L = false) (h1 : Own w' w.heap.size w'.heap.size (.slice A 0 c) []) (h2 : Below w.heap.size w w') : GivesB w (keepP L) (polyB L) (.returned (.tuple #[.slice A 0 c, .bool false])) w' := by
  rw [keepP_no hp, hp]; exact ⟨_, _, rfl, h1, h2⟩
theorem keep_yes {w w' : World} {L : List Int} {A : Option Addr} {n c : Nat} (hp : polyB L = true) (hn : n = L.length) (h1 : Own w' w.heap.size w'.heap.size (.slice A n c) L) (h2 : Below w.heap.size w w') : GivesB w (keepP L) (polyB L) (.returned (.tuple #[.slice A n c, .bool true])) w' := by
  subst hn; rw [keepP_yes hp, hp]; exact ⟨_, _, rfl, h1, h2⟩

/-- What checked leaves of a list that the caller has just made. -/
theorem checked_own (A : Option Addr) (n cap lo hi : Nat) (xs : List Int) (w0 w : World) (ho : Own w lo hi (.slice A n cap) xs) (hlo : w0.heap.size ≤ lo) (hhi : hi ≤ w.heap.size) (hb : Below w0.heap.size w0 w) (hn : n = xs.length) (hx : n ≤ 10000000) :
    Calls Try.prog 37 #[.slice A n cap] w (GivesB w0 (keepP xs) (polyB xs)) := by
  cases h : polyB xs
  · rw [keepP_no h]
    refine (checked_no A n cap xs w hi ho.row hn hx h).mono ?_
    rintro e w' ⟨rfl, rfl⟩
    exact ⟨none, 0, rfl, Own.none_ _ _ _, hb⟩
  · rw [keepP_yes h]
    refine (checked_yes A n cap xs w hi ho.row hn hx h).mono ?_
    rintro e w' ⟨rfl, rfl⟩
    refine GivesB.mk rfl ?_ ?_ hb
    · exact hn
    · exact ho.loosen hlo hhi

/-- What SumPoly returns. -/
def sumB (xs : List Int) (c : Int) : Bool := polyB xs && polyB (c :: xs)
def sumP (xs : List Int) (c : Int) : List Int := if sumB xs c = true then c :: xs else []

/-- A new empty list is left, whatever has been made before it. -/
theorem empty_left {w w1 : World} (hb : Below w.heap.size w w1) : Own (w1.alloc (.cells #[] 3)) w.heap.size (w1.alloc (.cells #[] 3)).heap.size (.slice (some ⟨w1.heap.size, 0, none⟩) 0 0) [] ∧ Below w.heap.size w (w1.alloc (.cells #[] 3)) :=
  ⟨(Own.empty w1).loosen hb.size (Nat.le_refl _), hb.alloc hb.size _⟩

/-- What DifferencePoly returns. -/
def diffP (xs : List Int) : List Int := if polyB xs = true then (if xs.length = 1 then [0] else xs.drop 1) else []

theorem keepP_length (xs : List Int) : (keepP xs).length ≤ 7 := by
  cases h : polyB xs
  · rw [keepP_no h]; decide
  · rw [keepP_yes h]; exact (poly_len h).2
theorem sumP_length (xs : List Int) (c : Int) : (sumP xs c).length ≤ 7 := by
  unfold sumP
  split
  · rename_i h
    unfold sumB at h
    exact (poly_len (Bool.and_eq_true_iff.1 h).2).2
  · decide
theorem diffP_length (xs : List Int) : (diffP xs).length ≤ 7 := by
  unfold diffP
  split
  · rename_i h
    have := poly_len h
    split
    · decide
    · rw [List.length_drop]; omega
  · decide
end Go.Proofs.Ytbcmpgagceomgaa
