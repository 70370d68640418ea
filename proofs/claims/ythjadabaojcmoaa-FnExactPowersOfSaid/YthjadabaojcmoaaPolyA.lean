/- The walks of what copies a list, and of both texts of SumPoly, DifferencePoly, TrimPoly and DegreeOf. -/
import Derived.Test.YthjadabaojcmoaaMark
import Derived.Test.YthjadabaojcmoaaPoly
namespace Go.Proofs.Ythjadabaojcmoaa
open Go.RowKit

theorem pvI (A : Option Addr) (n cap : Nat) (xs : List Int) (w : World) (B : Nat) (hr : Row w B A xs) (hn : n = xs.length) (hx : n ≤ 10000000) :
    Calls Try.prog 44 #[.slice A n cap] w fun e w' => e = .returned (.bool (polyB xs)) ∧ w = w' := by
  subst hn; exact polyValid_impl A cap xs w B hr (by omega)

theorem pvS (A : Option Addr) (n cap : Nat) (xs : List Int) (w : World) (B : Nat) (hr : Row w B A xs) (hn : n = xs.length) (hx : n ≤ 10000000) :
    Calls Try.prog 43 #[.slice A n cap] w fun e w' => e = .returned (.bool (polyB xs)) ∧ w = w' := by
  subst hn; exact polyValid_spec A cap xs w B hr (by omega)

/-- A polynomial has an address. -/
theorem poly_addr {w : World} {B : Nat} {A : Option Addr} {xs : List Int} (hr : Row w B A xs) (h : 1 ≤ xs.length) : ∃ b o, A = some ⟨b, o, none⟩ := by
  obtain ⟨b, o, e, _⟩ := hr 0 (by omega)
  exact ⟨b, o, e⟩
theorem poly_len {xs : List Int} (h : polyB xs = true) : 1 ≤ xs.length ∧ xs.length ≤ 7 := (listB_iff.1 h).1
theorem poly_bd {xs : List Int} (h : polyB xs = true) : ∀ x ∈ xs, -100000 ≤ x ∧ x ≤ 100000 := (listB_iff.1 h).2

set_option maxHeartbeats 1000000 in
theorem clone_any (b o n cap : Nat) (xs : List Int) (w : World) (B : Nat) (hr : Row w B (some ⟨b, o, none⟩) xs) (hB : B ≤ w.heap.size) (hn : n = xs.length) (hx : n ≤ 10000000) :
    Calls Try.prog 50 #[.slice (some ⟨b, o, none⟩) n cap] w (Gives w xs) := by
  have hq := fun W => Lib.run_eql_slice_nil (P := Try.prog) W 22 3 (some ⟨b, o, none⟩) n cap 0 0 Try.underlying22
  have hr2 := hr.keep (w' := w.alloc (.cells #[] 3)) ((Below.refl _ _).alloc hB _)
  have N := Lib.hid hn; have R := Lib.hid hr2; clear hr hr2 hn
  go_enter Try.func50, Try.ntmps50
  go_wp2_with (at_builtin; refine wpList_app rfl _ _ rfl rfl (Own.empty w) (by simp) rfl N.out R.out (by have := N.out; simp; omega) n (by have := N.out; simp; omega) ?_; intro A' c' w' ho hg; have O := Lib.hid ho; have G := Lib.hid (below_new hg); clear ho hg)
  go_ret
  exact Gives.mk rfl N.out O.out G.out

set_option maxHeartbeats 400000 in
theorem checked_yes (A : Option Addr) (n cap : Nat) (xs : List Int) (w : World) (B : Nat) (hr : Row w B A xs) (hn : n = xs.length) (hx : n ≤ 10000000) (h : polyB xs = true) :
    Calls Try.prog 45 #[.slice A n cap] w fun e w' => e = .returned (.tuple #[.slice A n cap, .bool true]) ∧ w = w' := by
  have N := Lib.hid hn; have R := Lib.hid hr; have H := Lib.hid h; clear hn hr h
  go_enter Try.func45, Try.ntmps45
  go_wp2_with (go_at_call 44; refine (pvI _ _ _ xs _ _ R.out N.out hx).mono ?_; rintro e w' ⟨rfl, rfl⟩; rw [H.out])
  go_ret2
  exact ⟨rfl, rfl⟩

set_option maxHeartbeats 400000 in
theorem checked_no (A : Option Addr) (n cap : Nat) (xs : List Int) (w : World) (B : Nat) (hr : Row w B A xs) (hn : n = xs.length) (hx : n ≤ 10000000) (h : polyB xs = false) :
    Calls Try.prog 45 #[.slice A n cap] w fun e w' => e = .returned (.tuple #[.slice none 0 0, .bool false]) ∧ w = w' := by
  have N := Lib.hid hn; have R := Lib.hid hr; have H := Lib.hid h; clear hn hr h
  go_enter Try.func45, Try.ntmps45
  go_wp2_with (go_at_call 44; refine (pvI _ _ _ xs _ _ R.out N.out hx).mono ?_; rintro e w' ⟨rfl, rfl⟩; rw [H.out])
  go_ret2
  exact ⟨rfl, rfl⟩

/-- A list, if it is a polynomial. -/
def keepP (xs : List Int) : List Int := if polyB xs = true then xs else []
theorem keepP_yes {xs : List Int} (h : polyB xs = true) : keepP xs = xs := if_pos h
theorem keepP_no {xs : List Int} (h : polyB xs = false) : keepP xs = [] := by unfold keepP; rw [h]; rfl

theorem keep_no {w w' : World} {L : List Int} {A : Option Addr} {c : Nat} (hp : polyB L = false) (h1 : Own w' w.heap.size w'.heap.size (.slice A 0 c) []) (h2 : Below w.heap.size w w') : GivesB w (keepP L) (polyB L) (.returned (.tuple #[.slice A 0 c, .bool false])) w' := by
  rw [keepP_no hp, hp]; exact ⟨_, _, rfl, h1, h2⟩
theorem keep_yes {w w' : World} {L : List Int} {A : Option Addr} {n c : Nat} (hp : polyB L = true) (hn : n = L.length) (h1 : Own w' w.heap.size w'.heap.size (.slice A n c) L) (h2 : Below w.heap.size w w') : GivesB w (keepP L) (polyB L) (.returned (.tuple #[.slice A n c, .bool true])) w' := by
  subst hn; rw [keepP_yes hp, hp]; exact ⟨_, _, rfl, h1, h2⟩

/-- What checked leaves of a list that the caller has just made. -/
theorem checked_own (A : Option Addr) (n cap lo hi : Nat) (xs : List Int) (w0 w : World) (ho : Own w lo hi (.slice A n cap) xs) (hlo : w0.heap.size ≤ lo) (hhi : hi ≤ w.heap.size) (hb : Below w0.heap.size w0 w) (hn : n = xs.length) (hx : n ≤ 10000000) :
    Calls Try.prog 45 #[.slice A n cap] w (GivesB w0 (keepP xs) (polyB xs)) := by
  cases h : polyB xs
  · rw [keepP_no h]
    refine (checked_no A n cap xs w hi ho.row hn hx h).mono ?_
    rintro e w' ⟨rfl, rfl⟩
    exact ⟨none, 0, rfl, Own.none_ _ _ _, hb⟩
  · rw [keepP_yes h]
    refine (checked_yes A n cap xs w hi ho.row hn hx h).mono ?_
    rintro e w' ⟨rfl, rfl⟩
    refine GivesB.mk rfl ?_ ?_ hb
    · exact hn
    · exact ho.loosen hlo hhi

/-- What SumPoly returns. -/
def sumB (xs : List Int) (c : Int) : Bool := polyB xs && polyB (c :: xs)
def sumP (xs : List Int) (c : Int) : List Int := if sumB xs c = true then c :: xs else []

set_option maxHeartbeats 1000000 in
theorem sumPoly_impl (A : Option Addr) (n cap : Nat) (xs : List Int) (c : Int) (w : World) (hr : Row w w.heap.size A xs) (hn : n = xs.length) (hx : n ≤ 10000000) :
    Calls Try.prog 17 #[.slice A n cap, .int .i64 c] w (GivesB w (sumP xs c) (sumB xs c)) := by
  cases h : polyB xs
  · rw [show sumP xs c = [] by unfold sumP sumB; rw [h]; rfl, show sumB xs c = false by unfold sumB; rw [h]; rfl]
    have N := Lib.hid hn; have R := Lib.hid hr; have H := Lib.hid h; clear hn hr h
    go_enter Try.func17, Try.ntmps17
    go_wp2_with (go_at_call 44; refine (pvI _ _ _ xs _ _ R.out N.out hx).mono ?_; rintro e w' ⟨rfl, rfl⟩; rw [H.out])
    go_ret2
    exact ⟨none, 0, rfl, Own.none_ _ _ _, Below.refl _ _⟩
  · rw [show sumP xs c = keepP (c :: xs) by unfold sumP sumB keepP; rw [h, Bool.true_and], show sumB xs c = polyB (c :: xs) by unfold sumB; rw [h, Bool.true_and]]
    have hr2 := hr.keep (w' := w.alloc (.cells #[.int .i64 c] 3)) ((Below.refl _ _).alloc (Nat.le_refl _) _)
    have N := Lib.hid hn; have R := Lib.hid hr; have R2 := Lib.hid hr2; have H := Lib.hid h; clear hn hr hr2 h
    go_enter Try.func17, Try.ntmps17
    go_wp2_with (first | (go_at_call 44; refine (pvI _ _ _ xs _ _ R.out N.out hx).mono ?_; rintro e w' ⟨rfl, rfl⟩; rw [H.out]) | (at_builtin; refine wpList_app rfl _ _ rfl rfl (Own.one w c) (by simp) rfl N.out R2.out (by have := N.out; simp; omega) (n + 1) (by have := N.out; simp; omega) ?_; intro A' c' w' ho hg; have O := Lib.hid ho; have G := Lib.hid (below_new hg); clear ho hg) | (go_at_call 45; refine (checked_own _ _ _ _ _ (c :: xs) w _ O.out (Nat.le_refl _) (Nat.le_refl _) G.out (by have := N.out; simp; omega) (by have := poly_len H.out; have := N.out; omega)).mono ?_; rintro e w2 ⟨A2, c2, rfl, o2, b2⟩; have O2 := Lib.hid o2; have B2 := Lib.hid b2; clear o2 b2))
    go_ret2
    exact ⟨_, _, rfl, O2.out, B2.out⟩

/-- A new empty list is left, whatever has been made before it. -/
theorem empty_left {w w1 : World} (hb : Below w.heap.size w w1) : Own (w1.alloc (.cells #[] 3)) w.heap.size (w1.alloc (.cells #[] 3)).heap.size (.slice (some ⟨w1.heap.size, 0, none⟩) 0 0) [] ∧ Below w.heap.size w (w1.alloc (.cells #[] 3)) :=
  ⟨(Own.empty w1).loosen hb.size (Nat.le_refl _), hb.alloc hb.size _⟩

set_option maxHeartbeats 2000000 in
theorem sumPoly_spec (A : Option Addr) (n cap : Nat) (xs : List Int) (c : Int) (w : World) (hr : Row w w.heap.size A xs) (hn : n = xs.length) (hx : n ≤ 1100000) :
    Calls Try.prog 15 #[.slice A n cap, .int .i64 c] w (GivesB w (sumP xs c) (sumB xs c)) := by
  have hr2 := hr.keep (w' := w.alloc (.cells #[.int .i64 c] 3)) ((Below.refl _ _).alloc (Nat.le_refl _) _)
  cases h : polyB xs
  · rw [show sumP xs c = [] by unfold sumP sumB; rw [h]; rfl, show sumB xs c = false by unfold sumB; rw [h]; rfl]
    have N := Lib.hid hn; have R := Lib.hid hr; have R2 := Lib.hid hr2; have H := Lib.hid h; clear hn hr hr2 h
    go_enter Try.func15, Try.ntmps15
    go_wp2_with (first | (at_builtin; refine wpList_app rfl _ _ rfl rfl (Own.one w c) (by simp) rfl N.out R2.out (by have := N.out; simp; omega) (n + 1) (by have := N.out; simp; omega) ?_; intro A' c' w' ho hg; have O := Lib.hid ho; have G := Lib.hid (below_new hg); have E := Lib.hid (empty_left (below_new hg)); clear ho hg) | (go_at_call 43; refine (pvS _ _ _ xs _ _ (R.out.keep G.out) N.out (by omega)).mono ?_; rintro e w' ⟨rfl, rfl⟩; rw [H.out]))
    go_ret2
    exact ⟨_, _, rfl, E.out.1, E.out.2⟩
  · have hl := poly_len h
    cases h2 : polyB (c :: xs)
    · rw [show sumP xs c = [] by unfold sumP sumB; rw [h, h2]; rfl, show sumB xs c = false by unfold sumB; rw [h, h2]; rfl]
      have N := Lib.hid hn; have R := Lib.hid hr; have R2 := Lib.hid hr2; have H := Lib.hid h; have H2 := Lib.hid h2; clear hn hr hr2 h h2
      go_enter Try.func15, Try.ntmps15
      go_wp2_with (first | (at_builtin; refine wpList_app rfl _ _ rfl rfl (Own.one w c) (by simp) rfl N.out R2.out (by have := N.out; simp; omega) (n + 1) (by have := N.out; simp; omega) ?_; intro A' c' w' ho hg; have O := Lib.hid ho; have G := Lib.hid (below_new hg); have E := Lib.hid (empty_left (below_new hg)); clear ho hg) | fail)
      refine (pvS _ _ _ xs _ _ (R.out.keep G.out) N.out (by omega)).mono ?_
      rintro e w' ⟨rfl, rfl⟩
      rw [H.out]
      go_wp2_with fail
      refine (pvS _ _ _ (c :: xs) _ _ O.out.row (by have := N.out; simp; omega) (by omega)).mono ?_
      rintro e w' ⟨rfl, rfl⟩
      rw [H2.out]
      go_wp2_with fail
      go_ret2
      exact ⟨_, _, rfl, E.out.1, E.out.2⟩
    · rw [show sumP xs c = c :: xs by unfold sumP sumB; rw [h, h2]; rfl, show sumB xs c = true by unfold sumB; rw [h, h2]; rfl]
      have N := Lib.hid hn; have R := Lib.hid hr; have R2 := Lib.hid hr2; have H := Lib.hid h; have H2 := Lib.hid h2; clear hn hr hr2 h h2
      go_enter Try.func15, Try.ntmps15
      go_wp2_with (first | (at_builtin; refine wpList_app rfl _ _ rfl rfl (Own.one w c) (by simp) rfl N.out R2.out (by have := N.out; simp; omega) (n + 1) (by have := N.out; simp; omega) ?_; intro A' c' w' ho hg; have O := Lib.hid ho; have G := Lib.hid (below_new hg); clear ho hg) | fail)
      refine (pvS _ _ _ xs _ _ (R.out.keep G.out) N.out (by omega)).mono ?_
      rintro e w' ⟨rfl, rfl⟩
      rw [H.out]
      go_wp2_with fail
      refine (pvS _ _ _ (c :: xs) _ _ O.out.row (by have := N.out; simp; omega) (by omega)).mono ?_
      rintro e w' ⟨rfl, rfl⟩
      rw [H2.out]
      go_wp2_with fail
      go_ret2
      refine GivesB.mk rfl (by have := N.out; simp; omega) O.out G.out

/-- What DifferencePoly returns. -/
def diffP (xs : List Int) : List Int := if polyB xs = true then (if xs.length = 1 then [0] else xs.drop 1) else []

set_option maxHeartbeats 1000000 in
theorem diffPoly_spec (A : Option Addr) (n cap : Nat) (xs : List Int) (w : World) (hr : Row w w.heap.size A xs) (hn : n = xs.length) (hc : n ≤ cap) (hx : n ≤ 10000000) :
    Calls Try.prog 23 #[.slice A n cap] w (Gives w (diffP xs)) := by
  cases h : polyB xs
  · rw [show diffP xs = [] by unfold diffP; rw [h]; rfl]
    have E := Lib.hid (empty_left (Below.refl w.heap.size w))
    have N := Lib.hid hn; have R := Lib.hid hr; have H := Lib.hid h; clear hn hr h
    go_enter Try.func23, Try.ntmps23
    go_wp2_with (go_at_call 43; refine (pvS _ _ _ xs _ _ R.out N.out hx).mono ?_; rintro e w' ⟨rfl, rfl⟩; rw [H.out])
    go_ret
    exact ⟨_, _, rfl, E.out.1, E.out.2⟩
  · have hl := poly_len h
    by_cases h1 : n = 1
    · subst h1
      rw [show diffP xs = [0] by unfold diffP; rw [if_pos h, if_pos hn.symm]]
      have N := Lib.hid hn; have R := Lib.hid hr; have H := Lib.hid h; clear hn hr h
      go_enter Try.func23, Try.ntmps23
      go_wp2_with (go_at_call 43; refine (pvS _ _ _ xs _ _ R.out N.out hx).mono ?_; rintro e w' ⟨rfl, rfl⟩; rw [H.out])
      go_ret
      exact Gives.mk (xs := [0]) rfl rfl (Own.one w 0) ((Below.refl _ _).alloc (Nat.le_refl _) _)
    · rw [show diffP xs = xs.drop 1 by unfold diffP; rw [if_pos h, if_neg (by omega)]]
      obtain ⟨b, o, rfl⟩ := poly_addr hr hl.1
      have hn1 : ((n : Int) == 1) = false := by simp; omega
      have hcap : ¬ cap = 1 := by omega
      have h1n : 1 ≤ n := by omega
      have hr2 := (hr.cut (k := 1)).keep (w' := w.alloc (.cells #[] 3)) ((Below.refl _ _).alloc (Nat.le_refl _) _)
      have N := Lib.hid hn; have R := Lib.hid hr; have R2 := Lib.hid hr2; have H := Lib.hid h; clear hn hr hr2 h
      go_enter Try.func23, Try.ntmps23
      go_wp2_with (first | (go_at_call 43; refine (pvS _ _ _ xs _ _ R.out N.out hx).mono ?_; rintro e w' ⟨rfl, rfl⟩; rw [H.out]) | (at_builtin; refine wpList_app rfl _ _ rfl rfl (Own.empty w) (by simp) rfl (by have := N.out; simp; omega) R2.out (by have := N.out; simp; omega) (n - 1) (by have := N.out; simp; omega) ?_; intro A' c' w' ho hg; have O := Lib.hid ho; have G := Lib.hid (below_new hg); clear ho hg))
      go_ret
      exact Gives.mk rfl (by have := N.out; simp; omega) O.out G.out

theorem keepP_length (xs : List Int) : (keepP xs).length ≤ 7 := by
  cases h : polyB xs
  · rw [keepP_no h]; decide
  · rw [keepP_yes h]; exact (poly_len h).2
theorem sumP_length (xs : List Int) (c : Int) : (sumP xs c).length ≤ 7 := by
  unfold sumP
  split
  · rename_i h
    unfold sumB at h
    exact (poly_len (Bool.and_eq_true_iff.1 h).2).2
  · decide
theorem diffP_length (xs : List Int) : (diffP xs).length ≤ 7 := by
  unfold diffP
  split
  · rename_i h
    have := poly_len h
    split
    · decide
    · rw [List.length_drop]; omega
  · decide
end Go.Proofs.Ythjadabaojcmoaa
