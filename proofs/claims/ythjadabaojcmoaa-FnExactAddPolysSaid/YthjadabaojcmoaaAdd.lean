/- The walks of both texts of AddPolys. -/
import Derived.Test.YthjadabaojcmoaaScale
namespace Go.Proofs.Ythjadabaojcmoaa
open Go.RowKit

/-- The sums of the numbers of p and q in the same place, m of them. -/
def accL (m : Nat) (p q : List Int) : List Int := (List.range m).map fun i => p.getD i 0 + q.getD i 0
theorem accL_length (m : Nat) (p q : List Int) : (accL m p q).length = m := by simp [accL]
theorem accL_at {m : Nat} {p q : List Int} {j : Nat} (h : j < (accL m p q).length) : (accL m p q)[j] = p.getD j 0 + q.getD j 0 := by
  simp [accL]
theorem accL_zero (m : Nat) : accL m [] [] = List.replicate m 0 := by
  apply List.ext_getElem
  · simp [accL]
  · intro i h1 h2
    simp [accL]
theorem getD_take {q : List Int} {j i : Nat} : (q.take j).getD i 0 = if i < j then q.getD i 0 else 0 := by
  rw [List.getD_eq_getElem?_getD, List.getElem?_take]
  split
  · rw [List.getD_eq_getElem?_getD]
  · rfl
theorem accL_step {m : Nat} {p q : List Int} {j : Nat} (hj : j < q.length) : (accL m p (q.take j)).set j (p.getD j 0 + q[j]) = accL m p (q.take (j + 1)) := by
  apply List.ext_getElem
  · simp [accL]
  · intro i h1 h2
    rw [List.getElem_set]
    split
    · rename_i e
      subst e
      rw [accL_at, getD_take, if_pos (by omega), List.getD_eq_getElem?_getD (l := q), List.getElem?_eq_getElem hj]
      rfl
    · rename_i e
      rw [accL_at, accL_at, getD_take, getD_take]
      congr 1
      by_cases hi : i < j
      · rw [if_pos hi, if_pos (by omega)]
      · rw [if_neg hi, if_neg (by omega)]
theorem accL_swap (m : Nat) (p : List Int) : accL m [] p = accL m p [] := by
  unfold accL
  congr 1
  funext i
  simp
theorem getD_bd {p : List Int} (hb : ∀ x ∈ p, -100000 ≤ x ∧ x ≤ 100000) (i : Nat) : -100000 ≤ p.getD i 0 ∧ p.getD i 0 ≤ 100000 := by
  rw [List.getD_eq_getElem?_getD]
  cases h : p[i]? with
  | none => simp
  | some x => exact hb x (List.mem_of_getElem? h)

/-- What AddPolys returns. -/
def addW (p q : List Int) : List Int := accL (max p.length q.length) p q
def adB (p q : List Int) : Bool := (polyB p && polyB q) && polyB (addW p q)
def adP (p q : List Int) : List Int := if adB p q = true then addW p q else []
theorem ad_no {p q : List Int} (h : (polyB p && polyB q) = false) : adB p q = false ∧ adP p q = [] := by
  have : adB p q = false := by unfold adB; rw [h]; rfl
  exact ⟨this, by unfold adP; rw [this]; rfl⟩
theorem ad_yes {p q : List Int} (h1 : polyB p = true) (h2 : polyB q = true) : adB p q = polyB (addW p q) ∧ adP p q = keepP (addW p q) := by
  have : adB p q = polyB (addW p q) := by unfold adB; rw [h1, h2]; rfl
  exact ⟨this, by unfold adP keepP; rw [this]⟩
theorem adP_length (p q : List Int) : (adP p q).length ≤ 7 := by
  unfold adP
  split
  · rename_i h
    unfold adB at h
    exact (poly_len (Bool.and_eq_true_iff.1 h).2).2
  · decide
theorem acc_fill {W : World} {g : Nat} {t : TypeId} {m : Nat} {p q : List Int} {j : Nat} {x : Int} (h : Blk W g t (cI (accL m p (q.take j)))) (hj : j < q.length) (hx : p.getD j 0 + q[j] = x) :
    Blk (W.setCell ⟨g, j, none⟩ (.int .i64 x)) g t (cI (accL m p (q.take (j + 1)))) := by
  have h2 := h.put j (.int .i64 (p.getD j 0 + q[j]))
  rw [cI_set, accL_step hj, hx] at h2
  exact h2
theorem acc_cell {W : World} {g : Nat} {t : TypeId} {m : Nat} {p q : List Int} {j : Nat} (h : Blk W g t (cI (accL m p (q.take j)))) (hm : j < m) : W.cell? ⟨g, j, none⟩ = some (.int .i64 (p.getD j 0)) := by
  rw [cI_cell h (by rw [accL_length]; exact hm), accL_at, getD_take, if_neg (by omega), Int.add_zero]

set_option maxHeartbeats 4000000 in
theorem addPolys_impl_yes (A : Option Addr) (n cap : Nat) (p : List Int) (A' : Option Addr) (n' cap' : Nat) (q : List Int) (w : World) (hr : Row w w.heap.size A p) (hr' : Row w w.heap.size A' q) (hn : n = p.length) (hn' : n' = q.length) (h : polyB p = true) (h' : polyB q = true) :
    Calls Try.prog 32 #[.slice A n cap, .slice A' n' cap'] w (GivesB w (keepP (addW p q)) (polyB (addW p q))) := by
  have hl := poly_len h
  have hl' := poly_len h'
  have hn7 : n ≤ 7 := by omega
  have hn7' : n' ≤ 7 := by omega
  by_cases hnm : n < n'
  · have hlt0 : (n : Int) < (n' : Int) := by omega
    have hmk := make_ints n' (by omega) (n' : Int) rfl
    have hW : accL n' p q = addW p q := by unfold addW; congr 1; omega
    have hL : (addW p q).length = n' := by rw [← hW, accL_length]
    have hm1 : n ≤ n' := by omega
    have hm2 : n' ≤ n' := by omega
    have L := Lib.hid hL; have HW := Lib.hid hW; have PB := Lib.hid (poly_bd h); have PB' := Lib.hid (poly_bd h'); have N := Lib.hid hn; have R := Lib.hid hr; have H := Lib.hid h; have N' := Lib.hid hn'; have R' := Lib.hid hr'; have H' := Lib.hid h'; clear hn hr h hn' hr' h' hW hL
    go_enter Try.func32, Try.ntmps32
    go_wp2_with fail
    refine (pvI _ _ _ p _ _ R.out N.out (by omega)).mono ?_
    rintro e w' ⟨rfl, rfl⟩
    rw [H.out]
    go_wp2_with fail
    refine (pvI _ _ _ q _ _ R'.out N'.out (by omega)).mono ?_
    rintro e w' ⟨rfl, rfl⟩
    rw [H'.out]
    go_wp2_with fail
    go_loopw [27] (fun i wr => ∃ k : Nat, k ≤ n ∧ i = .int .i64 k ∧ Blk wr w.heap.size 3 (cI (accL n' [] (p.take k))) ∧ Below w.heap.size w wr) (fun i _ => n - (intOf i).toNat)
    case atStart => exact ⟨0, Nat.zero_le _, rfl, by rw [List.take_zero, accL_zero]; exact Blk.new _ _ _, (Below.refl _ _).alloc (Nat.le_refl _) _⟩
    case round =>
      obtain ⟨k, hk, rfl, hblk, hw⟩ := hrel
      by_cases hlt : k < n
      · have hlx : k < p.length := by have := N.out; omega
        obtain ⟨b, o, rfl, hbw, hc⟩ := (R.out.keep hw) k hlx
        have bx := PB.out p[k] (List.getElem_mem _)
        have hold := acc_cell hblk (show k < n' by omega)
        have e0 : ([] : List Int).getD k 0 = 0 := rfl
        rw [e0] at hold
        have hfree := hblk.free k
        have hkM : k < n' := by omega
        have ST := Lib.hid (acc_fill (x := p[k]) hblk hlx (by rw [e0, Int.zero_add]))
        have V := Lib.hid hw; clear hblk hw e0
        generalize p[k] = x at *
        go_wp2_with fail
        go_roundw
        case rel => exact ⟨k + 1, by omega, by go_num, ST.out, (V.out.setCell (p := ⟨w.heap.size, k, none⟩) (Nat.le_refl _) _)⟩
        case measure => simp [intOf] <;> omega
      · obtain rfl : n = k := by omega
        rw [List.take_of_length_le (by rw [N.out]; exact Nat.le_refl _), accL_swap] at hblk
        have K1 := Lib.hid hblk; have V1 := Lib.hid hw; clear hblk hw
        obtain ⟨w1, rfl⟩ : ∃ w1 : World, w1 = wr := ⟨_, rfl⟩
        go_wp2_with fail
        go_loopw [42] (fun i wr => ∃ j : Nat, j ≤ n' ∧ i = .int .i64 j ∧ Blk wr w.heap.size 3 (cI (accL n' p (q.take j))) ∧ Below w.heap.size w wr) (fun i _ => n' - (intOf i).toNat)
        case atStart => exact ⟨0, Nat.zero_le _, rfl, by rw [List.take_zero]; exact K1.out, V1.out⟩
        case round =>
          obtain ⟨j, hj, rfl, hblk, hw⟩ := hrel
          by_cases hlt2 : j < n'
          · have hlx : j < q.length := by have := N'.out; omega
            obtain ⟨b', o', rfl, hbw', hc'⟩ := (R'.out.keep hw) j hlx
            have bx' := PB'.out q[j] (List.getElem_mem _)
            have bp := getD_bd PB.out j
            have hold := acc_cell hblk (show j < n' by omega)
            have hfree := hblk.free j
            have hjM : j < n' := by omega
            have ST := Lib.hid (acc_fill (x := p.getD j 0 + q[j]) hblk hlx rfl)
            have V := Lib.hid hw; clear hblk hw
            generalize p.getD j 0 = x0 at *
            generalize q[j] = x at *
            go_wp2_with fail
            go_roundw
            case rel => exact ⟨j + 1, by omega, by go_num, ST.out, (V.out.setCell (p := ⟨w.heap.size, j, none⟩) (Nat.le_refl _) _)⟩
            case measure => simp [intOf] <;> omega
          · obtain rfl : n' = j := by omega
            rw [List.take_of_length_le (by rw [N'.out]; exact Nat.le_refl _), HW.out] at hblk
            have O := Lib.hid (own_part hblk L.out.symm (by omega)); have V := Lib.hid hw; clear hblk hw
            go_wp2_with (go_at_call 45; refine (checked_own _ _ _ _ _ (addW p q) w _ O.out (Nat.le_refl _) (Nat.le_refl _) V.out L.out.symm (by omega)).mono ?_; rintro e w2 ⟨A2, c2, rfl, o2, b2⟩; have O2 := Lib.hid o2; have B2 := Lib.hid b2; clear o2 b2)
            go_ret2
            exact ⟨_, _, rfl, O2.out, B2.out⟩
  · have hlt0 : ¬ (n : Int) < (n' : Int) := by omega
    have hmk := make_ints n (by omega) (n : Int) rfl
    have hW : accL n p q = addW p q := by unfold addW; congr 1; omega
    have hL : (addW p q).length = n := by rw [← hW, accL_length]
    have hm1 : n ≤ n := by omega
    have hm2 : n' ≤ n := by omega
    have L := Lib.hid hL; have HW := Lib.hid hW; have PB := Lib.hid (poly_bd h); have PB' := Lib.hid (poly_bd h'); have N := Lib.hid hn; have R := Lib.hid hr; have H := Lib.hid h; have N' := Lib.hid hn'; have R' := Lib.hid hr'; have H' := Lib.hid h'; clear hn hr h hn' hr' h' hW hL
    go_enter Try.func32, Try.ntmps32
    go_wp2_with fail
    refine (pvI _ _ _ p _ _ R.out N.out (by omega)).mono ?_
    rintro e w' ⟨rfl, rfl⟩
    rw [H.out]
    go_wp2_with fail
    refine (pvI _ _ _ q _ _ R'.out N'.out (by omega)).mono ?_
    rintro e w' ⟨rfl, rfl⟩
    rw [H'.out]
    go_wp2_with fail
    go_loopw [27] (fun i wr => ∃ k : Nat, k ≤ n ∧ i = .int .i64 k ∧ Blk wr w.heap.size 3 (cI (accL n [] (p.take k))) ∧ Below w.heap.size w wr) (fun i _ => n - (intOf i).toNat)
    case atStart => exact ⟨0, Nat.zero_le _, rfl, by rw [List.take_zero, accL_zero]; exact Blk.new _ _ _, (Below.refl _ _).alloc (Nat.le_refl _) _⟩
    case round =>
      obtain ⟨k, hk, rfl, hblk, hw⟩ := hrel
      by_cases hlt : k < n
      · have hlx : k < p.length := by have := N.out; omega
        obtain ⟨b, o, rfl, hbw, hc⟩ := (R.out.keep hw) k hlx
        have bx := PB.out p[k] (List.getElem_mem _)
        have hold := acc_cell hblk (show k < n by omega)
        have e0 : ([] : List Int).getD k 0 = 0 := rfl
        rw [e0] at hold
        have hfree := hblk.free k
        have hkM : k < n := by omega
        have ST := Lib.hid (acc_fill (x := p[k]) hblk hlx (by rw [e0, Int.zero_add]))
        have V := Lib.hid hw; clear hblk hw e0
        generalize p[k] = x at *
        go_wp2_with fail
        go_roundw
        case rel => exact ⟨k + 1, by omega, by go_num, ST.out, (V.out.setCell (p := ⟨w.heap.size, k, none⟩) (Nat.le_refl _) _)⟩
        case measure => simp [intOf] <;> omega
      · obtain rfl : n = k := by omega
        rw [List.take_of_length_le (by rw [N.out]; exact Nat.le_refl _), accL_swap] at hblk
        have K1 := Lib.hid hblk; have V1 := Lib.hid hw; clear hblk hw
        obtain ⟨w1, rfl⟩ : ∃ w1 : World, w1 = wr := ⟨_, rfl⟩
        go_wp2_with fail
        go_loopw [42] (fun i wr => ∃ j : Nat, j ≤ n' ∧ i = .int .i64 j ∧ Blk wr w.heap.size 3 (cI (accL n p (q.take j))) ∧ Below w.heap.size w wr) (fun i _ => n' - (intOf i).toNat)
        case atStart => exact ⟨0, Nat.zero_le _, rfl, by rw [List.take_zero]; exact K1.out, V1.out⟩
        case round =>
          obtain ⟨j, hj, rfl, hblk, hw⟩ := hrel
          by_cases hlt2 : j < n'
          · have hlx : j < q.length := by have := N'.out; omega
            obtain ⟨b', o', rfl, hbw', hc'⟩ := (R'.out.keep hw) j hlx
            have bx' := PB'.out q[j] (List.getElem_mem _)
            have bp := getD_bd PB.out j
            have hold := acc_cell hblk (show j < n by omega)
            have hfree := hblk.free j
            have hjM : j < n := by omega
            have ST := Lib.hid (acc_fill (x := p.getD j 0 + q[j]) hblk hlx rfl)
            have V := Lib.hid hw; clear hblk hw
            generalize p.getD j 0 = x0 at *
            generalize q[j] = x at *
            go_wp2_with fail
            go_roundw
            case rel => exact ⟨j + 1, by omega, by go_num, ST.out, (V.out.setCell (p := ⟨w.heap.size, j, none⟩) (Nat.le_refl _) _)⟩
            case measure => simp [intOf] <;> omega
          · obtain rfl : n' = j := by omega
            rw [List.take_of_length_le (by rw [N'.out]; exact Nat.le_refl _), HW.out] at hblk
            have O := Lib.hid (own_part hblk L.out.symm (by omega)); have V := Lib.hid hw; clear hblk hw
            go_wp2_with (go_at_call 45; refine (checked_own _ _ _ _ _ (addW p q) w _ O.out (Nat.le_refl _) (Nat.le_refl _) V.out L.out.symm (by omega)).mono ?_; rintro e w2 ⟨A2, c2, rfl, o2, b2⟩; have O2 := Lib.hid o2; have B2 := Lib.hid b2; clear o2 b2)
            go_ret2
            exact ⟨_, _, rfl, O2.out, B2.out⟩

set_option maxHeartbeats 1000000 in
theorem addPolys_impl (A : Option Addr) (n cap : Nat) (p : List Int) (A' : Option Addr) (n' cap' : Nat) (q : List Int) (w : World) (hr : Row w w.heap.size A p) (hr' : Row w w.heap.size A' q) (hn : n = p.length) (hn' : n' = q.length) (hx : n ≤ 10000000) (hx' : n' ≤ 10000000) :
    Calls Try.prog 32 #[.slice A n cap, .slice A' n' cap'] w (GivesB w (adP p q) (adB p q)) := by
  cases h : polyB p
  · rw [(ad_no (p := p) (q := q) (by rw [h]; rfl)).1, (ad_no (p := p) (q := q) (by rw [h]; rfl)).2]
    have N := Lib.hid hn; have R := Lib.hid hr; have H := Lib.hid h; clear hn hr h
    go_enter Try.func32, Try.ntmps32
    go_wp2_with fail
    refine (pvI _ _ _ p _ _ R.out N.out hx).mono ?_
    rintro e w' ⟨rfl, rfl⟩
    rw [H.out]
    go_wp2_with fail
    go_ret2
    exact ⟨none, 0, rfl, Own.none_ _ _ _, Below.refl _ _⟩
  · cases h' : polyB q
    · rw [(ad_no (p := p) (q := q) (by rw [h, h']; rfl)).1, (ad_no (p := p) (q := q) (by rw [h, h']; rfl)).2]
      have N := Lib.hid hn; have R := Lib.hid hr; have H := Lib.hid h; have N' := Lib.hid hn'; have R' := Lib.hid hr'; have H' := Lib.hid h'; clear hn hr h hn' hr' h'
      go_enter Try.func32, Try.ntmps32
      go_wp2_with fail
      refine (pvI _ _ _ p _ _ R.out N.out hx).mono ?_
      rintro e w' ⟨rfl, rfl⟩
      rw [H.out]
      go_wp2_with fail
      refine (pvI _ _ _ q _ _ R'.out N'.out hx').mono ?_
      rintro e w' ⟨rfl, rfl⟩
      rw [H'.out]
      go_wp2_with fail
      go_ret2
      exact ⟨none, 0, rfl, Own.none_ _ _ _, Below.refl _ _⟩
    · rw [(ad_yes h h').1, (ad_yes h h').2]
      exact addPolys_impl_yes A n cap p A' n' cap' q w hr hr' hn hn' h h'

set_option maxHeartbeats 4000000 in
theorem addPolys_spec_yes (A : Option Addr) (n cap : Nat) (p : List Int) (A' : Option Addr) (n' cap' : Nat) (q : List Int) (w : World) (hr : Row w w.heap.size A p) (hr' : Row w w.heap.size A' q) (hn : n = p.length) (hn' : n' = q.length) (h : polyB p = true) (h' : polyB q = true) :
    Calls Try.prog 31 #[.slice A n cap, .slice A' n' cap'] w (GivesB w (keepP (addW p q)) (polyB (addW p q))) := by
  have hl := poly_len h
  have hl' := poly_len h'
  have hn7 : n ≤ 7 := by omega
  have hn7' : n' ≤ 7 := by omega
  by_cases hnm : n < n'
  · have hlt0 : (n : Int) < (n' : Int) := by omega
    have hmk := make_ints n' (by omega) (n' : Int) rfl
    have hW : accL n' p q = addW p q := by unfold addW; congr 1; omega
    have hL : (addW p q).length = n' := by rw [← hW, accL_length]
    have hm1 : n ≤ n' := by omega
    have hm2 : n' ≤ n' := by omega
    have L := Lib.hid hL; have HW := Lib.hid hW; have PB := Lib.hid (poly_bd h); have PB' := Lib.hid (poly_bd h'); have N := Lib.hid hn; have R := Lib.hid hr; have H := Lib.hid h; have N' := Lib.hid hn'; have R' := Lib.hid hr'; have H' := Lib.hid h'; clear hn hr h hn' hr' h' hW hL
    go_enter Try.func31, Try.ntmps31
    go_wp2_with fail
    refine (pvS _ _ _ p _ _ R.out N.out (by omega)).mono ?_
    rintro e w' ⟨rfl, rfl⟩
    rw [H.out]
    go_wp2_with fail
    refine (pvS _ _ _ q _ _ R'.out N'.out (by omega)).mono ?_
    rintro e w' ⟨rfl, rfl⟩
    rw [H'.out]
    go_wp2_with fail
    go_loopw [7] (fun i wr => ∃ k : Nat, k ≤ n ∧ i = .int .i64 k ∧ Blk wr w.heap.size 3 (cI (accL n' [] (p.take k))) ∧ Below w.heap.size w wr) (fun i _ => n - (intOf i).toNat)
    case atStart => exact ⟨0, Nat.zero_le _, rfl, by rw [List.take_zero, accL_zero]; exact Blk.new _ _ _, (Below.refl _ _).alloc (Nat.le_refl _) _⟩
    case round =>
      obtain ⟨k, hk, rfl, hblk, hw⟩ := hrel
      by_cases hlt : k < n
      · have hlx : k < p.length := by have := N.out; omega
        obtain ⟨b, o, rfl, hbw, hc⟩ := (R.out.keep hw) k hlx
        have bx := PB.out p[k] (List.getElem_mem _)
        have hold := acc_cell hblk (show k < n' by omega)
        have e0 : ([] : List Int).getD k 0 = 0 := rfl
        rw [e0] at hold
        have hfree := hblk.free k
        have hkM : k < n' := by omega
        have ST := Lib.hid (acc_fill (x := p[k]) hblk hlx (by rw [e0, Int.zero_add]))
        have V := Lib.hid hw; clear hblk hw e0
        generalize p[k] = x at *
        go_wp2_with fail
        go_region
        go_wp2_with fail
        go_roundw
        case rel => exact ⟨k + 1, by omega, by go_num, ST.out, (V.out.setCell (p := ⟨w.heap.size, k, none⟩) (Nat.le_refl _) _).drew⟩
        case measure => simp [intOf] <;> omega
      · obtain rfl : n = k := by omega
        rw [List.take_of_length_le (by rw [N.out]; exact Nat.le_refl _), accL_swap] at hblk
        have K1 := Lib.hid hblk; have V1 := Lib.hid hw; clear hblk hw
        obtain ⟨w1, rfl⟩ : ∃ w1 : World, w1 = wr := ⟨_, rfl⟩
        go_wp2_with fail
        go_loopw [8] (fun i wr => ∃ j : Nat, j ≤ n' ∧ i = .int .i64 j ∧ Blk wr w.heap.size 3 (cI (accL n' p (q.take j))) ∧ Below w.heap.size w wr) (fun i _ => n' - (intOf i).toNat)
        case atStart => exact ⟨0, Nat.zero_le _, rfl, by rw [List.take_zero]; exact K1.out, V1.out⟩
        case round =>
          obtain ⟨j, hj, rfl, hblk, hw⟩ := hrel
          by_cases hlt2 : j < n'
          · have hlx : j < q.length := by have := N'.out; omega
            obtain ⟨b', o', rfl, hbw', hc'⟩ := (R'.out.keep hw) j hlx
            have bx' := PB'.out q[j] (List.getElem_mem _)
            have bp := getD_bd PB.out j
            have hold := acc_cell hblk (show j < n' by omega)
            have hfree := hblk.free j
            have hjM : j < n' := by omega
            have ST := Lib.hid (acc_fill (x := p.getD j 0 + q[j]) hblk hlx rfl)
            have V := Lib.hid hw; clear hblk hw
            generalize p.getD j 0 = x0 at *
            generalize q[j] = x at *
            go_wp2_with fail
            go_region
            go_wp2_with fail
            go_roundw
            case rel => exact ⟨j + 1, by omega, by go_num, ST.out, (V.out.setCell (p := ⟨w.heap.size, j, none⟩) (Nat.le_refl _) _).drew⟩
            case measure => simp [intOf] <;> omega
          · obtain rfl : n' = j := by omega
            rw [List.take_of_length_le (by rw [N'.out]; exact Nat.le_refl _), HW.out] at hblk
            have O := Lib.hid (own_part hblk L.out.symm (by omega)); have V := Lib.hid hw; clear hblk hw
            have E2 := Lib.hid (empty_left V.out)
            cases hp : polyB (addW p q)
            · have P := Lib.hid hp; clear hp
              go_wp2_with (go_at_call 43; refine (pvS _ _ _ (addW p q) _ _ O.out.row L.out.symm (by omega)).mono ?_; rintro e w' ⟨rfl, rfl⟩; rw [P.out])
              go_ret2
              exact keep_no P.out E2.out.1 E2.out.2
            · have P := Lib.hid hp; clear hp
              go_wp2_with (go_at_call 43; refine (pvS _ _ _ (addW p q) _ _ O.out.row L.out.symm (by omega)).mono ?_; rintro e w' ⟨rfl, rfl⟩; rw [P.out])
              go_ret2
              exact keep_yes P.out L.out.symm O.out V.out
  · have hlt0 : ¬ (n : Int) < (n' : Int) := by omega
    have hmk := make_ints n (by omega) (n : Int) rfl
    have hW : accL n p q = addW p q := by unfold addW; congr 1; omega
    have hL : (addW p q).length = n := by rw [← hW, accL_length]
    have hm1 : n ≤ n := by omega
    have hm2 : n' ≤ n := by omega
    have L := Lib.hid hL; have HW := Lib.hid hW; have PB := Lib.hid (poly_bd h); have PB' := Lib.hid (poly_bd h'); have N := Lib.hid hn; have R := Lib.hid hr; have H := Lib.hid h; have N' := Lib.hid hn'; have R' := Lib.hid hr'; have H' := Lib.hid h'; clear hn hr h hn' hr' h' hW hL
    go_enter Try.func31, Try.ntmps31
    go_wp2_with fail
    refine (pvS _ _ _ p _ _ R.out N.out (by omega)).mono ?_
    rintro e w' ⟨rfl, rfl⟩
    rw [H.out]
    go_wp2_with fail
    refine (pvS _ _ _ q _ _ R'.out N'.out (by omega)).mono ?_
    rintro e w' ⟨rfl, rfl⟩
    rw [H'.out]
    go_wp2_with fail
    go_loopw [7] (fun i wr => ∃ k : Nat, k ≤ n ∧ i = .int .i64 k ∧ Blk wr w.heap.size 3 (cI (accL n [] (p.take k))) ∧ Below w.heap.size w wr) (fun i _ => n - (intOf i).toNat)
    case atStart => exact ⟨0, Nat.zero_le _, rfl, by rw [List.take_zero, accL_zero]; exact Blk.new _ _ _, (Below.refl _ _).alloc (Nat.le_refl _) _⟩
    case round =>
      obtain ⟨k, hk, rfl, hblk, hw⟩ := hrel
      by_cases hlt : k < n
      · have hlx : k < p.length := by have := N.out; omega
        obtain ⟨b, o, rfl, hbw, hc⟩ := (R.out.keep hw) k hlx
        have bx := PB.out p[k] (List.getElem_mem _)
        have hold := acc_cell hblk (show k < n by omega)
        have e0 : ([] : List Int).getD k 0 = 0 := rfl
        rw [e0] at hold
        have hfree := hblk.free k
        have hkM : k < n := by omega
        have ST := Lib.hid (acc_fill (x := p[k]) hblk hlx (by rw [e0, Int.zero_add]))
        have V := Lib.hid hw; clear hblk hw e0
        generalize p[k] = x at *
        go_wp2_with fail
        go_region
        go_wp2_with fail
        go_roundw
        case rel => exact ⟨k + 1, by omega, by go_num, ST.out, (V.out.setCell (p := ⟨w.heap.size, k, none⟩) (Nat.le_refl _) _).drew⟩
        case measure => simp [intOf] <;> omega
      · obtain rfl : n = k := by omega
        rw [List.take_of_length_le (by rw [N.out]; exact Nat.le_refl _), accL_swap] at hblk
        have K1 := Lib.hid hblk; have V1 := Lib.hid hw; clear hblk hw
        obtain ⟨w1, rfl⟩ : ∃ w1 : World, w1 = wr := ⟨_, rfl⟩
        go_wp2_with fail
        go_loopw [8] (fun i wr => ∃ j : Nat, j ≤ n' ∧ i = .int .i64 j ∧ Blk wr w.heap.size 3 (cI (accL n p (q.take j))) ∧ Below w.heap.size w wr) (fun i _ => n' - (intOf i).toNat)
        case atStart => exact ⟨0, Nat.zero_le _, rfl, by rw [List.take_zero]; exact K1.out, V1.out⟩
        case round =>
          obtain ⟨j, hj, rfl, hblk, hw⟩ := hrel
          by_cases hlt2 : j < n'
          · have hlx : j < q.length := by have := N'.out; omega
            obtain ⟨b', o', rfl, hbw', hc'⟩ := (R'.out.keep hw) j hlx
            have bx' := PB'.out q[j] (List.getElem_mem _)
            have bp := getD_bd PB.out j
            have hold := acc_cell hblk (show j < n by omega)
            have hfree := hblk.free j
            have hjM : j < n := by omega
            have ST := Lib.hid (acc_fill (x := p.getD j 0 + q[j]) hblk hlx rfl)
            have V := Lib.hid hw; clear hblk hw
            generalize p.getD j 0 = x0 at *
            generalize q[j] = x at *
            go_wp2_with fail
            go_region
            go_wp2_with fail
            go_roundw
            case rel => exact ⟨j + 1, by omega, by go_num, ST.out, (V.out.setCell (p := ⟨w.heap.size, j, none⟩) (Nat.le_refl _) _).drew⟩
            case measure => simp [intOf] <;> omega
          · obtain rfl : n' = j := by omega
            rw [List.take_of_length_le (by rw [N'.out]; exact Nat.le_refl _), HW.out] at hblk
            have O := Lib.hid (own_part hblk L.out.symm (by omega)); have V := Lib.hid hw; clear hblk hw
            have E2 := Lib.hid (empty_left V.out)
            cases hp : polyB (addW p q)
            · have P := Lib.hid hp; clear hp
              go_wp2_with (go_at_call 43; refine (pvS _ _ _ (addW p q) _ _ O.out.row L.out.symm (by omega)).mono ?_; rintro e w' ⟨rfl, rfl⟩; rw [P.out])
              go_ret2
              exact keep_no P.out E2.out.1 E2.out.2
            · have P := Lib.hid hp; clear hp
              go_wp2_with (go_at_call 43; refine (pvS _ _ _ (addW p q) _ _ O.out.row L.out.symm (by omega)).mono ?_; rintro e w' ⟨rfl, rfl⟩; rw [P.out])
              go_ret2
              exact keep_yes P.out L.out.symm O.out V.out

set_option maxHeartbeats 1000000 in
theorem addPolys_spec (A : Option Addr) (n cap : Nat) (p : List Int) (A' : Option Addr) (n' cap' : Nat) (q : List Int) (w : World) (hr : Row w w.heap.size A p) (hr' : Row w w.heap.size A' q) (hn : n = p.length) (hn' : n' = q.length) (hx : n ≤ 10000000) (hx' : n' ≤ 10000000) :
    Calls Try.prog 31 #[.slice A n cap, .slice A' n' cap'] w (GivesB w (adP p q) (adB p q)) := by
  have E := Lib.hid (empty_left (Below.refl w.heap.size w))
  cases h : polyB p
  · rw [(ad_no (p := p) (q := q) (by rw [h]; rfl)).1, (ad_no (p := p) (q := q) (by rw [h]; rfl)).2]
    have N := Lib.hid hn; have R := Lib.hid hr; have H := Lib.hid h; clear hn hr h
    go_enter Try.func31, Try.ntmps31
    go_wp2_with fail
    refine (pvS _ _ _ p _ _ R.out N.out hx).mono ?_
    rintro e w' ⟨rfl, rfl⟩
    rw [H.out]
    go_wp2_with fail
    go_ret2
    exact ⟨_, _, rfl, E.out.1, E.out.2⟩
  · cases h' : polyB q
    · rw [(ad_no (p := p) (q := q) (by rw [h, h']; rfl)).1, (ad_no (p := p) (q := q) (by rw [h, h']; rfl)).2]
      have N := Lib.hid hn; have R := Lib.hid hr; have H := Lib.hid h; have N' := Lib.hid hn'; have R' := Lib.hid hr'; have H' := Lib.hid h'; clear hn hr h hn' hr' h'
      go_enter Try.func31, Try.ntmps31
      go_wp2_with fail
      refine (pvS _ _ _ p _ _ R.out N.out hx).mono ?_
      rintro e w' ⟨rfl, rfl⟩
      rw [H.out]
      go_wp2_with fail
      refine (pvS _ _ _ q _ _ R'.out N'.out hx').mono ?_
      rintro e w' ⟨rfl, rfl⟩
      rw [H'.out]
      go_wp2_with fail
      go_ret2
      exact ⟨_, _, rfl, E.out.1, E.out.2⟩
    · rw [(ad_yes h h').1, (ad_yes h h').2]
      exact addPolys_spec_yes A n cap p A' n' cap' q w hr hr' hn hn' h h'

end Go.Proofs.Ythjadabaojcmoaa
