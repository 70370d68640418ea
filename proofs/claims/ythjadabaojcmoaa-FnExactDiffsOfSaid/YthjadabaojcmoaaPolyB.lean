/- The walks of DifferencePoly (the program's), of both texts of TrimPoly, DegreeOf and EvalPoly. -/
import Derived.Test.YthjadabaojcmoaaPolyA
namespace Go.Proofs.Ythjadabaojcmoaa
open Go.RowKit

set_option maxHeartbeats 1000000 in
theorem diffPoly_impl (A : Option Addr) (n cap : Nat) (xs : List Int) (w : World) (hr : Row w w.heap.size A xs) (hn : n = xs.length) (hc : n ≤ cap) (hx : n ≤ 10000000) :
    Calls Try.prog 24 #[.slice A n cap] w (Gives w (diffP xs)) := by
  cases h : polyB xs
  · rw [show diffP xs = [] by unfold diffP; rw [h]; rfl]
    have N := Lib.hid hn; have R := Lib.hid hr; have H := Lib.hid h; clear hn hr h
    go_enter Try.func24, Try.ntmps24
    go_wp2_with (go_at_call 44; refine (pvI _ _ _ xs _ _ R.out N.out hx).mono ?_; rintro e w' ⟨rfl, rfl⟩; rw [H.out])
    go_ret
    exact ⟨_, _, rfl, Own.none_ _ _ _, Below.refl _ _⟩
  · have hl := poly_len h
    by_cases h1 : n = 1
    · subst h1
      rw [show diffP xs = [0] by unfold diffP; rw [if_pos h, if_pos hn.symm]]
      have N := Lib.hid hn; have R := Lib.hid hr; have H := Lib.hid h; clear hn hr h
      go_enter Try.func24, Try.ntmps24
      go_wp2_with (go_at_call 44; refine (pvI _ _ _ xs _ _ R.out N.out hx).mono ?_; rintro e w' ⟨rfl, rfl⟩; rw [H.out])
      go_ret
      exact Gives.mk (xs := [0]) rfl rfl (Own.one w 0) ((Below.refl _ _).alloc (Nat.le_refl _) _)
    · rw [show diffP xs = xs.drop 1 by unfold diffP; rw [if_pos h, if_neg (by omega)]]
      obtain ⟨b, o, rfl⟩ := poly_addr hr hl.1
      have hn1 : ((n : Int) == 1) = false := by simp; omega
      have hcap : ¬ cap = 1 := by omega
      have h1n : 1 ≤ n := by omega
      have hr2 := hr.cut (k := 1)
      have N := Lib.hid hn; have R := Lib.hid hr; have R2 := Lib.hid hr2; have H := Lib.hid h; clear hn hr hr2 h
      go_enter Try.func24, Try.ntmps24
      go_wp2_with (first | (go_at_call 44; refine (pvI _ _ _ xs _ _ R.out N.out hx).mono ?_; rintro e w' ⟨rfl, rfl⟩; rw [H.out]) | (go_at_call 50; refine (clone_any _ _ _ _ (xs.drop 1) _ _ R2.out (Nat.le_refl _) (by have := N.out; simp; omega) (by omega)).mono ?_; rintro e w2 hg; obtain ⟨A2, c2, rfl, o2, b2⟩ := hg.len (n - 1) (by have := N.out; simp; omega); have O2 := Lib.hid o2; have B2 := Lib.hid b2; clear o2 b2))
      go_ret
      exact Gives.mk rfl (by have := N.out; simp; omega) O2.out B2.out

/-- The length without the zeros at the end, but at least one. -/
def trimK (xs : List Int) : Nat → Nat
  | 0 => 1
  | j + 1 => if xs.getD (j + 1) 0 = 0 then trimK xs j else j + 2
theorem trimK_zero (xs : List Int) : trimK xs 0 = 1 := rfl
theorem trimK_cut {xs : List Int} {j : Nat} (h : j + 1 < xs.length) (h0 : xs[j + 1] = 0) : trimK xs (j + 1) = trimK xs j := by
  rw [trimK, if_pos (by rw [List.getD_eq_getElem?_getD, List.getElem?_eq_getElem h]; exact h0)]
theorem trimK_stop {xs : List Int} {j : Nat} (h : j + 1 < xs.length) (h0 : xs[j + 1] ≠ 0) : trimK xs (j + 1) = j + 2 := by
  rw [trimK, if_neg (by rw [List.getD_eq_getElem?_getD, List.getElem?_eq_getElem h]; exact h0)]
theorem trimK_bd (xs : List Int) (j : Nat) : 1 ≤ trimK xs j ∧ trimK xs j ≤ j + 1 := by
  induction j with
  | zero => simp [trimK]
  | succ j ih => rw [trimK]; split <;> omega
def trimN (xs : List Int) : Nat := trimK xs (xs.length - 1)
def trimW (xs : List Int) : List Int := xs.take (trimN xs)
def trimP (xs : List Int) : List Int := if polyB xs = true then trimW xs else []
theorem trimN_bd {xs : List Int} (h : 1 ≤ xs.length) : 1 ≤ trimN xs ∧ trimN xs ≤ xs.length := by
  have := trimK_bd xs (xs.length - 1); unfold trimN; omega
theorem trimW_length {xs : List Int} (h : 1 ≤ xs.length) : (trimW xs).length = trimN xs := by
  have := trimN_bd h; unfold trimW; rw [List.length_take]; omega

set_option maxHeartbeats 2000000 in
theorem l2Trim_any (A : Option Addr) (n cap : Nat) (xs : List Int) (w : World) (hr : Row w w.heap.size A xs) (hn : n = xs.length) (hc : n ≤ cap) (h1 : 1 ≤ n) (hx : n ≤ 10000000) :
    Calls Try.prog 52 #[.slice A n cap] w (Gives w (trimW xs)) := by
  obtain ⟨b, o, rfl⟩ := poly_addr hr (by omega)
  obtain ⟨m, rfl⟩ : ∃ m, n = m + 1 := ⟨n - 1, by omega⟩
  have hr2 := hr.keep (w' := w.alloc (.cells #[] 3)) ((Below.refl _ _).alloc (Nat.le_refl _) _)
  have hcap0 : ¬ cap = 0 := by omega
  have N := Lib.hid hn; have R := Lib.hid hr; have R2 := Lib.hid hr2; clear hn hr hr2
  go_enter Try.func52, Try.ntmps52
  go_wp2_with fail
  go_loop [3] (fun k => ∃ j : Nat, j ≤ m ∧ k = .int .i64 ((j : Int) + 1) ∧ Hid (trimK xs j = trimN xs)) (fun k => (intOf k).toNat)
  case atStart => exact ⟨m, Nat.le_refl _, rfl, by show _ = _; unfold trimN; rw [← N.out]; rfl⟩
  case round =>
    obtain ⟨j, hj, rfl, HT⟩ := hrel
    obtain ⟨b', o', e', _, hcell⟩ := R.out j (by have := N.out; omega)
    simp only [Option.some.injEq, Addr.mk.injEq, and_true] at e'
    obtain ⟨rfl, rfl⟩ := e'
    cases j with
    | zero =>
      have ht : trimN xs = 1 := by rw [← HT.out]; rfl
      have hl : (trimW xs).length = 1 := by rw [trimW_length (by have := N.out; omega), ht]
      have HL := Lib.hid hl
      have R3 : Hid (Row (w.alloc (.cells #[] 3)) w.heap.size (some ⟨b, o, none⟩) (trimW xs)) := R2.out.head
      clear hl ht
      go_wp2_with (at_builtin; refine wpList_app rfl _ _ rfl rfl (Own.empty w) (by simp) rfl HL.out.symm R3.out (by rw [HL.out]; simp) 1 (by rw [HL.out]; rfl) ?_; intro A' c' w' ho hg; have O := Lib.hid ho; have G := Lib.hid (below_new hg); clear ho hg)
      go_ret
      exact Gives.mk rfl HL.out.symm O.out G.out
    | succ i =>
      have hi : i + 1 < xs.length := by have := N.out; omega
      have hpos : (1 : Int) < ((i : Int) + 1) + 1 := by omega
      by_cases h0 : xs[i + 1] = 0
      · have t1 : (xs[i + 1] == 0) = true := by simp [h0]
        have HT2 : Hid (trimK xs i = trimN xs) := by show _ = _; rw [← HT.out, trimK_cut hi h0]
        clear h0
        go_wp2_with fail
        go_round
        case rel => exact ⟨i, by omega, by go_num, HT2⟩
        case measure => simp [intOf] <;> omega
      · have t1 : (xs[i + 1] == 0) = false := by simp [h0]
        have ht : trimN xs = i + 2 := by rw [← HT.out, trimK_stop hi h0]
        have hl : (trimW xs).length = i + 2 := by rw [trimW_length (by omega), ht]
        have HL := Lib.hid hl
        have R3 : Hid (Row (w.alloc (.cells #[] 3)) w.heap.size (some ⟨b, o, none⟩) (trimW xs)) := R2.out.head
        have hcap2 : i + 2 ≤ cap := by omega
        clear h0 ht hl
        go_wp2_with (at_builtin; refine wpList_app rfl _ _ rfl rfl (Own.empty w) (by simp) rfl HL.out.symm R3.out (by rw [HL.out]; simp; omega) (i + 2) (by rw [HL.out]; simp) ?_; intro A' c' w' ho hg; have O := Lib.hid ho; have G := Lib.hid (below_new hg); clear ho hg)
        go_ret
        exact Gives.mk rfl HL.out.symm O.out G.out

set_option maxHeartbeats 1000000 in
theorem trimPoly_spec (A : Option Addr) (n cap : Nat) (xs : List Int) (w : World) (hr : Row w w.heap.size A xs) (hn : n = xs.length) (hc : n ≤ cap) (hx : n ≤ 10000000) :
    Calls Try.prog 29 #[.slice A n cap] w (Gives w (trimP xs)) := by
  cases h : polyB xs
  · rw [show trimP xs = [] by unfold trimP; rw [h]; rfl]
    have E := Lib.hid (empty_left (Below.refl w.heap.size w))
    have N := Lib.hid hn; have R := Lib.hid hr; have H := Lib.hid h; clear hn hr h
    go_enter Try.func29, Try.ntmps29
    go_wp2_with (go_at_call 43; refine (pvS _ _ _ xs _ _ R.out N.out hx).mono ?_; rintro e w' ⟨rfl, rfl⟩; rw [H.out])
    go_ret
    exact ⟨_, _, rfl, E.out.1, E.out.2⟩
  · rw [show trimP xs = trimW xs from if_pos h]
    have hl := poly_len h
    have N := Lib.hid hn; have R := Lib.hid hr; have H := Lib.hid h; clear hn hr h
    go_enter Try.func29, Try.ntmps29
    go_wp2_with (first | (go_at_call 43; refine (pvS _ _ _ xs _ _ R.out N.out hx).mono ?_; rintro e w' ⟨rfl, rfl⟩; rw [H.out]) | (go_at_call 52; refine (l2Trim_any _ _ _ xs _ R.out N.out hc (by have := N.out; omega) hx).mono ?_; rintro e w2 ⟨A2, c2, rfl, o2, b2⟩; have O2 := Lib.hid o2; have B2 := Lib.hid b2; clear o2 b2))
    go_ret
    exact ⟨_, _, rfl, O2.out, B2.out⟩

set_option maxHeartbeats 2000000 in
theorem trimPoly_yes (A : Option Addr) (n cap : Nat) (xs : List Int) (w : World) (hr : Row w w.heap.size A xs) (hn : n = xs.length) (hc : n ≤ cap) (hp : polyB xs = true) :
    Calls Try.prog 30 #[.slice A n cap] w (Gives w (trimW xs)) := by
  have hl7 := poly_len hp
  obtain ⟨b, o, rfl⟩ := poly_addr hr (by omega)
  have H := Lib.hid hp; clear hp
  obtain ⟨m, rfl⟩ : ∃ m, n = m + 1 := ⟨n - 1, by omega⟩
  have hcap0 : ¬ cap = 0 := by omega
  have N := Lib.hid hn; have R := Lib.hid hr; clear hn hr
  go_enter Try.func30, Try.ntmps30
  go_wp2_with (go_at_call 44; refine (pvI _ _ _ xs _ _ R.out N.out (by have := N.out; omega)).mono ?_; rintro e w' ⟨rfl, rfl⟩; rw [H.out])
  go_loop [3] (fun k => ∃ j : Nat, j ≤ m ∧ k = .int .i64 ((j : Int) + 1) ∧ Hid (trimK xs j = trimN xs)) (fun k => (intOf k).toNat)
  case atStart => exact ⟨m, Nat.le_refl _, rfl, by show _ = _; unfold trimN; rw [← N.out]; rfl⟩
  case round =>
    obtain ⟨j, hj, rfl, HT⟩ := hrel
    obtain ⟨b', o', e', _, hcell⟩ := R.out j (by have := N.out; omega)
    simp only [Option.some.injEq, Addr.mk.injEq, and_true] at e'
    obtain ⟨rfl, rfl⟩ := e'
    cases j with
    | zero =>
      have ht : trimN xs = 1 := by rw [← HT.out]; rfl
      have hl : (trimW xs).length = 1 := by rw [trimW_length (by have := N.out; omega), ht]
      have HL := Lib.hid hl
      have R3 : Hid (Row w w.heap.size (some ⟨b, o, none⟩) (trimW xs)) := R.out.head
      clear hl ht
      go_wp2_with (go_at_call 50; refine (clone_any _ _ _ _ (trimW xs) _ _ R3.out (Nat.le_refl _) HL.out.symm (by omega)).mono ?_; rintro e w2 hg; obtain ⟨A', c', rfl, ho, hb⟩ := hg.len (1) HL.out.symm; have O := Lib.hid ho; have G := Lib.hid hb; clear hg ho hb)
      go_ret
      exact Gives.mk rfl HL.out.symm O.out G.out
    | succ i =>
      have hi : i + 1 < xs.length := by have := N.out; omega
      have hpos : (1 : Int) < ((i : Int) + 1) + 1 := by omega
      by_cases h0 : xs[i + 1] = 0
      · have t1 : (xs[i + 1] == 0) = true := by simp [h0]
        have HT2 : Hid (trimK xs i = trimN xs) := by show _ = _; rw [← HT.out, trimK_cut hi h0]
        clear h0
        go_wp2_with fail
        go_round
        case rel => exact ⟨i, by omega, by go_num, HT2⟩
        case measure => simp [intOf] <;> omega
      · have t1 : (xs[i + 1] == 0) = false := by simp [h0]
        have ht : trimN xs = i + 2 := by rw [← HT.out, trimK_stop hi h0]
        have hl : (trimW xs).length = i + 2 := by rw [trimW_length (by omega), ht]
        have HL := Lib.hid hl
        have R3 : Hid (Row w w.heap.size (some ⟨b, o, none⟩) (trimW xs)) := R.out.head
        have hcap2 : i + 2 ≤ cap := by omega
        clear h0 ht hl
        go_wp2_with (go_at_call 50; refine (clone_any _ _ _ _ (trimW xs) _ _ R3.out (Nat.le_refl _) HL.out.symm (by omega)).mono ?_; rintro e w2 hg; obtain ⟨A', c', rfl, ho, hb⟩ := hg.len (i + 2) HL.out.symm; have O := Lib.hid ho; have G := Lib.hid hb; clear hg ho hb)
        go_ret
        exact Gives.mk rfl HL.out.symm O.out G.out

set_option maxHeartbeats 1000000 in
theorem trimPoly_impl (A : Option Addr) (n cap : Nat) (xs : List Int) (w : World) (hr : Row w w.heap.size A xs) (hn : n = xs.length) (hc : n ≤ cap) (hx : n ≤ 10000000) :
    Calls Try.prog 30 #[.slice A n cap] w (Gives w (trimP xs)) := by
  cases h : polyB xs
  · rw [show trimP xs = [] by unfold trimP; rw [h]; rfl]
    have N := Lib.hid hn; have R := Lib.hid hr; have H := Lib.hid h; clear hn hr h
    go_enter Try.func30, Try.ntmps30
    go_wp2_with (go_at_call 44; refine (pvI _ _ _ xs _ _ R.out N.out hx).mono ?_; rintro e w' ⟨rfl, rfl⟩; rw [H.out])
    go_ret
    exact ⟨_, _, rfl, Own.none_ _ _ _, Below.refl _ _⟩
  · rw [show trimP xs = trimW xs from if_pos h]
    exact trimPoly_yes A n cap xs w hr hn hc h

theorem trimP_length (xs : List Int) : (trimP xs).length ≤ 7 := by
  unfold trimP
  split
  · rename_i h
    have := poly_len h
    have h2 := trimN_bd this.1
    rw [trimW_length this.1]; omega
  · decide
end Go.Proofs.Ythjadabaojcmoaa
