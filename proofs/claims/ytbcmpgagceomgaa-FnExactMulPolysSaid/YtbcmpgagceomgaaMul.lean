/- The walks of both texts of MulPolys. -/
import Derived.Test.YtbcmpgagceomgaaPower
namespace Go.Proofs.Ytbcmpgagceomgaa
open Go.RowKit

theorem chz_low7 : ((List.range 7).all fun n => (List.range 7).all fun j => decide (-20 ≤ chz (n : Int) j) && decide (chz (n : Int) j ≤ 20)) = true := by decide +kernel
theorem chz_low {n j : Nat} (hn : n ≤ 6) (hj : j ≤ 6) : -20 ≤ chz (n : Int) j ∧ chz (n : Int) j ≤ 20 := by
  have h := List.all_eq_true.1 (List.all_eq_true.1 chz_low7 n (List.mem_range.2 (by omega))) j (List.mem_range.2 (by omega))
  simpa using h
theorem evT_low {xs : List Int} (hb : ∀ x ∈ xs, -100000 ≤ x ∧ x ≤ 100000) (h7 : xs.length ≤ 7) {n : Nat} (hn : n ≤ 6) (j : Nat) (hj : j ≤ xs.length) :
    -(2000000 * (j : Int)) ≤ evT xs n j ∧ evT xs n j ≤ 2000000 * (j : Int) := by
  induction j with
  | zero => simp [evT]
  | succ j ih =>
    have ih := ih (by omega)
    have hjl : j < xs.length := by omega
    have hx := hb xs[j] (List.getElem_mem hjl)
    have hc := chz_low hn (show j ≤ 6 by omega)
    have ht := mul_bd xs[j] (chz n j) 100000 20 (by decide) (by decide) hx.1 hx.2 hc.1 hc.2
    rw [evT_step hjl]
    omega
theorem evZ_low {xs : List Int} (hb : ∀ x ∈ xs, -100000 ≤ x ∧ x ≤ 100000) (h7 : xs.length ≤ 7) {n : Nat} (hn : n ≤ 6) : -14000000 ≤ evZ xs n ∧ evZ xs n ≤ 14000000 := by
  have h := evT_low hb h7 hn xs.length (Nat.le_refl _)
  unfold evZ
  omega
theorem prod_low {a b : Int} (h1 : -14000000 ≤ a ∧ a ≤ 14000000) (h2 : -14000000 ≤ b ∧ b ≤ 14000000) : -196000000000000 ≤ a * b ∧ a * b ≤ 196000000000000 := by
  have := mul_bd a b 14000000 14000000 (by decide) (by decide) h1.1 h1.2 h2.1 h2.2
  omega
/-- The products of the values at 0, 1 and so on. -/
def mulL (p q : List Int) : List Int := (List.range (p.length + q.length - 1)).map fun i : Nat => evZ p (i : Int) * evZ q (i : Int)
theorem mulL_length (p q : List Int) : (mulL p q).length = p.length + q.length - 1 := by simp [mulL]
theorem mulL_at {p q : List Int} {j : Nat} (h : j < (mulL p q).length) : (mulL p q)[j] = evZ p (j : Int) * evZ q (j : Int) := by simp [mulL]
theorem mulL_bd {p q : List Int} (hp : ∀ x ∈ p, -100000 ≤ x ∧ x ≤ 100000) (hq : ∀ x ∈ q, -100000 ≤ x ∧ x ≤ 100000) (p7 : p.length ≤ 7) (q7 : q.length ≤ 7) (h8 : p.length + q.length ≤ 8) : ∀ x ∈ mulL p q, -196000000000000 ≤ x ∧ x ≤ 196000000000000 := by
  intro x hx
  obtain ⟨j, hj, rfl⟩ := List.getElem_of_mem hx
  rw [mulL_at hj]
  have := mulL_length p q
  exact prod_low (evZ_low hp p7 (by omega)) (evZ_low hq q7 (by omega))
def mlA (p q : List Int) : Bool := (polyB p && polyB q) && decide (p.length + q.length ≤ 8)
def mlB (p q : List Int) : Bool := mlA p q && polyB (firsts (mulL p q))
def mlP (p q : List Int) : List Int := if mlB p q = true then firsts (mulL p q) else []
theorem ml_no {p q : List Int} (h : mlA p q = false) : mlB p q = false ∧ mlP p q = [] := by
  have : mlB p q = false := by unfold mlB; rw [h]; rfl
  exact ⟨this, by unfold mlP; rw [this]; rfl⟩
theorem ml_yes {p q : List Int} (h : mlA p q = true) : mlB p q = polyB (firsts (mulL p q)) ∧ mlP p q = keepP (firsts (mulL p q)) := by
  have : mlB p q = polyB (firsts (mulL p q)) := by unfold mlB; rw [h]; rfl
  exact ⟨this, by unfold mlP keepP; rw [this]⟩
theorem mlP_length (p q : List Int) : (mlP p q).length ≤ 7 := by
  unfold mlP
  split
  · rename_i h
    unfold mlB at h
    exact (poly_len (Bool.and_eq_true_iff.1 h).2).2
  · decide

set_option maxHeartbeats 4000000 in
theorem mulPolys_impl_yes (A : Option Addr) (n cap : Nat) (p : List Int) (A' : Option Addr) (n' cap' : Nat) (q : List Int) (w : World) (hr : Row w w.heap.size A p) (hr' : Row w w.heap.size A' q) (hn : n = p.length) (hn' : n' = q.length) (h : polyB p = true) (h' : polyB q = true) (h8 : n + n' ≤ 8) :
    Calls Try.prog 21 #[.slice A n cap, .slice A' n' cap'] w (GivesB w (keepP (firsts (mulL p q))) (polyB (firsts (mulL p q)))) := by
  have hl := poly_len h
  have hl' := poly_len h'
  have n1 : 1 ≤ n := by omega
  have n1' : 1 ≤ n' := by omega
  have n7 : n ≤ 7 := by omega
  have n7' : n' ≤ 7 := by omega
  have hg : ¬ (7 : Int) < (n : Int) + (n' : Int) - 1 := by omega
  obtain ⟨m, hm⟩ : ∃ m, m = n + n' - 1 := ⟨_, rfl⟩
  have hm7 : m ≤ 7 := by omega
  have hz : (n : Int) + (n' : Int) - 1 = (m : Int) := by omega
  have hmk := make_ints m (by omega) ((n : Int) + (n' : Int) - 1) hz
  have hL : (mulL p q).length = m := by rw [mulL_length]; omega
  have hF : (firsts (mulL p q)).length = m := by rw [firsts_length, hL]
  have hMB := mulL_bd (poly_bd h) (poly_bd h') hl.2 hl'.2 (by omega)
  have Z := Lib.hid hz; have L := Lib.hid hL; have FL := Lib.hid hF; have MB := Lib.hid hMB; have PB := Lib.hid (poly_bd h); have PB' := Lib.hid (poly_bd h'); have N := Lib.hid hn; have R := Lib.hid hr; have H := Lib.hid h; have N' := Lib.hid hn'; have R' := Lib.hid hr'; have H' := Lib.hid h'; clear hn hr h hn' hr' h' hL hF hMB hl hl' hm hz
  go_enter Try.func21, Try.ntmps21
  go_wp2_with fail
  refine (pvI _ _ _ p _ _ R.out N.out (by omega)).mono ?_
  rintro e w' ⟨rfl, rfl⟩
  rw [H.out]
  go_wp2_with fail
  refine (pvI _ _ _ q _ _ R'.out N'.out (by omega)).mono ?_
  rintro e w' ⟨rfl, rfl⟩
  rw [H'.out]
  go_wp2_with fail
  go_loopw [34] (fun i wr => ∃ k : Nat, k ≤ m ∧ i = .int .i64 k ∧ Blk wr w.heap.size 3 (cI (part (mulL p q) k)) ∧ Below w.heap.size w wr) (fun i _ => m - (intOf i).toNat)
  case atStart => exact ⟨0, Nat.zero_le _, rfl, by rw [part_zero, L.out]; exact Blk.new _ _ _, (Below.refl _ _).alloc (Nat.le_refl _) _⟩
  case round =>
    obtain ⟨k, hk, rfl, hblk, hw⟩ := hrel
    by_cases hlt : k < m
    · have hls : k < (mulL p q).length := by rw [L.out]; exact hlt
      have b1 := evZ_low PB.out (by rw [← N.out]; exact n7) (show k ≤ 6 by omega)
      have b2 := evZ_low PB'.out (by rw [← N'.out]; exact n7') (show k ≤ 6 by omega)
      have b3 := prod_low b1 b2
      obtain ⟨old, hold⟩ := part_some hblk hls
      have hfree := hblk.free k
      have ST := Lib.hid (fill_int hblk hls (mulL_at hls))
      have C1 := Lib.hid (valueAt_any A n cap p (k : Int) wr w.heap.size (R.out.keep hw) N.out n7 PB.out (by omega) (by omega))
      have C2 := Lib.hid (valueAt_any A' n' cap' q (k : Int) wr w.heap.size (R'.out.keep hw) N'.out n7' PB'.out (by omega) (by omega))
      have V := Lib.hid hw; clear hblk hw
      generalize evZ p (k : Int) = x at *
      generalize evZ q (k : Int) = y at *
      go_wp2_with fail
      refine C1.out.mono ?_
      rintro e w' ⟨rfl, rfl⟩
      go_wp2_with fail
      refine C2.out.mono ?_
      rintro e w' ⟨rfl, rfl⟩
      go_wp2_with fail
      go_roundw
      case rel => exact ⟨k + 1, by omega, by go_num, ST.out, V.out.setCell (p := ⟨w.heap.size, k, none⟩) (Nat.le_refl _) _⟩
      case measure => simp [intOf] <;> omega
    · obtain rfl : k = m := by omega
      rw [← L.out, part_all] at hblk
      have O := Lib.hid (own_part hblk L.out.symm (by have := L.out; omega)); have V := Lib.hid hw; clear hblk hw
      go_wp2_with (first | (go_at_call 44; refine (firsts_impl _ _ _ (mulL p q) 196000000000000 _ O.out.row L.out.symm (by omega) (pow7 hm7 _ (by decide) (by decide)) (by decide) MB.out).mono ?_; rintro e w2 hg; obtain ⟨A2, c2, rfl, o2, b2⟩ := hg.len _ FL.out.symm; have O2 := Lib.hid o2; have B2 := Lib.hid (V.out.trans (b2.mono V.out.size)); clear hg o2 b2) | (go_at_call 37; refine (checked_own _ _ _ _ _ (firsts (mulL p q)) w _ O2.out V.out.size (Nat.le_refl _) B2.out FL.out.symm (by omega)).mono ?_; rintro e w3 ⟨A3, c3, rfl, o3, b3⟩; have O3 := Lib.hid o3; have B3 := Lib.hid b3; clear o3 b3))
      go_ret2
      exact ⟨_, _, rfl, O3.out, B3.out⟩

set_option maxHeartbeats 4000000 in
theorem mulPolys_spec_yes (A : Option Addr) (n cap : Nat) (p : List Int) (A' : Option Addr) (n' cap' : Nat) (q : List Int) (w : World) (hr : Row w w.heap.size A p) (hr' : Row w w.heap.size A' q) (hn : n = p.length) (hn' : n' = q.length) (h : polyB p = true) (h' : polyB q = true) (h8 : n + n' ≤ 8) :
    Calls Try.prog 20 #[.slice A n cap, .slice A' n' cap'] w (GivesB w (keepP (firsts (mulL p q))) (polyB (firsts (mulL p q)))) := by
  have hl := poly_len h
  have hl' := poly_len h'
  have n1 : 1 ≤ n := by omega
  have n1' : 1 ≤ n' := by omega
  have n7 : n ≤ 7 := by omega
  have n7' : n' ≤ 7 := by omega
  have hg : ¬ (7 : Int) < (n : Int) + (n' : Int) - 1 := by omega
  obtain ⟨m, hm⟩ : ∃ m, m = n + n' - 1 := ⟨_, rfl⟩
  have hm7 : m ≤ 7 := by omega
  have hz : (n : Int) + (n' : Int) - 1 = (m : Int) := by omega
  have hmk := make_ints m (by omega) ((n : Int) + (n' : Int) - 1) hz
  have hL : (mulL p q).length = m := by rw [mulL_length]; omega
  have hF : (firsts (mulL p q)).length = m := by rw [firsts_length, hL]
  have hMB := mulL_bd (poly_bd h) (poly_bd h') hl.2 hl'.2 (by omega)
  have Z := Lib.hid hz; have L := Lib.hid hL; have FL := Lib.hid hF; have MB := Lib.hid hMB; have PB := Lib.hid (poly_bd h); have PB' := Lib.hid (poly_bd h'); have N := Lib.hid hn; have R := Lib.hid hr; have H := Lib.hid h; have N' := Lib.hid hn'; have R' := Lib.hid hr'; have H' := Lib.hid h'; clear hn hr h hn' hr' h' hL hF hMB hl hl' hm hz
  go_enter Try.func20, Try.ntmps20
  go_wp2_with fail
  refine (pvS _ _ _ p _ _ R.out N.out (by omega)).mono ?_
  rintro e w' ⟨rfl, rfl⟩
  rw [H.out]
  go_wp2_with fail
  refine (pvS _ _ _ q _ _ R'.out N'.out (by omega)).mono ?_
  rintro e w' ⟨rfl, rfl⟩
  rw [H'.out]
  go_wp2_with fail
  go_loopw [6, 7] (fun v i wr => ∃ (k : Nat) (A1 : Option Addr) (c1 : Nat), k ≤ m ∧ i = .int .i64 k ∧ v = .slice A1 k c1 ∧ Own wr w.heap.size wr.heap.size (.slice A1 k c1) ((mulL p q).take k) ∧ Below w.heap.size w wr) (fun _ i _ => m - (intOf i).toNat)
  case atStart => exact ⟨0, _, _, Nat.zero_le _, rfl, rfl, Own.empty w, (Below.refl _ _).alloc (Nat.le_refl _) _⟩
  case round =>
    obtain ⟨k, A1, c1, hk, rfl, rfl, ho, hw⟩ := hrel
    by_cases hlt : k < m
    · have hls : k < (mulL p q).length := by rw [L.out]; exact hlt
      have hgo : (k : Int) < (n : Int) + (n' : Int) - 1 := by have := Z.out; omega
      have tk : (mulL p q).take k ++ [evZ p (k : Int) * evZ q (k : Int)] = (mulL p q).take (k + 1) := take_push' hls (mulL_at hls)
      have lk : k = ((mulL p q).take k).length := by rw [List.length_take, L.out]; omega
      have b1 := evZ_low PB.out (by rw [← N.out]; exact n7) (show k ≤ 6 by omega)
      have b2 := evZ_low PB'.out (by rw [← N'.out]; exact n7') (show k ≤ 6 by omega)
      have b3 := prod_low b1 b2
      have C1 := Lib.hid (l2Eval_any A n cap p (k : Int) wr (R.out.keep hw |>.more hw.size) N.out n7 PB.out (by omega) (by omega))
      have C2 := Lib.hid (fun (w1 : World) (hw1 : Below w.heap.size w w1) => l2Eval_any A' n' cap' q (k : Int) w1 (R'.out.keep hw1 |>.more hw1.size) N'.out n7' PB'.out (by omega) (by omega))
      have O := Lib.hid ho; have V := Lib.hid hw; have TK := Lib.hid tk; have LK := Lib.hid lk; clear ho hw tk lk
      generalize evZ p (k : Int) = x at *
      generalize evZ q (k : Int) = y at *
      go_wp2_with fail
      refine C1.out.mono ?_
      rintro e w1 ⟨rfl, q1, hq1⟩
      have v1 : Below wr.heap.size wr w1 := by subst hq1; exact below_drewN (Below.refl _ _) _
      clear hq1
      have V1 := Lib.hid v1; clear v1
      go_wp2_with fail
      refine (C2.out w1 (V.out.trans (V1.out.mono V.out.size))).mono ?_
      rintro e w2 ⟨rfl, q2, hq2⟩
      have v2 : Below wr.heap.size wr w2 := by subst hq2; exact below_drewN V1.out _
      clear hq2
      have wa : Below wr.heap.size wr (w2.alloc (.cells #[.int .i64 (x * y)] 3)) := v2.alloc v2.size _
      have O1 := Lib.hid (O.out.below wa (Nat.le_refl _)); have W1 := Lib.hid (V.out.trans (wa.mono V.out.size)); clear wa v2
      go_wp2_with (at_builtin; refine wpList_app rfl _ _ rfl rfl O1.out W1.out.size rfl rfl (Row.single w2 (x * y) 3) (by have := LK.out; simp; omega) (k + 1) (by rw [← LK.out]; rfl) ?_; intro A3 c3 w3 ho3 hg3; have O3 := Lib.hid ho3; have V3 := Lib.hid (below_grown W1.out hg3 O1.out W1.out.size (Nat.le_refl _)); clear ho3 hg3)
      go_roundw
      case rel => exact ⟨k + 1, _, _, by omega, by go_num, rfl, by have h := O3.out; rw [TK.out] at h; exact h, V3.out⟩
      case measure => simp [intOf] <;> omega
    · obtain rfl : k = m := by omega
      have hgo : ¬ (k : Int) < (n : Int) + (n' : Int) - 1 := by have := Z.out; omega
      rw [List.take_of_length_le (by rw [L.out]; exact Nat.le_refl _)] at ho
      have O := Lib.hid ho; have V := Lib.hid hw; clear ho hw
      go_wp2_with (go_at_call 32; refine (l2Result_any _ _ _ (mulL p q) 196000000000000 _ O.out.row L.out.symm hm7 (by decide) (by decide) MB.out).mono ?_; rintro e w2 ⟨A2, c2, rfl, o2, b2⟩; have O2 := Lib.hid (o2.loosen V.out.size (Nat.le_refl _)); have B2 := Lib.hid (V.out.trans (b2.mono V.out.size)); clear o2 b2)
      go_ret2
      exact ⟨_, _, rfl, O2.out, B2.out⟩

set_option maxHeartbeats 2000000 in
theorem mulPolys_impl (A : Option Addr) (n cap : Nat) (p : List Int) (A' : Option Addr) (n' cap' : Nat) (q : List Int) (w : World) (hr : Row w w.heap.size A p) (hr' : Row w w.heap.size A' q) (hn : n = p.length) (hn' : n' = q.length) (hx : n ≤ 10000000) (hx' : n' ≤ 10000000) :
    Calls Try.prog 21 #[.slice A n cap, .slice A' n' cap'] w (GivesB w (mlP p q) (mlB p q)) := by
  cases h : polyB p
  · have hA : mlA p q = false := by unfold mlA; rw [h]; rfl
    rw [(ml_no hA).1, (ml_no hA).2]
    have N := Lib.hid hn; have R := Lib.hid hr; have H := Lib.hid h; clear hn hr h hA
    go_enter Try.func21, Try.ntmps21
    go_wp2_with fail
    refine (pvI _ _ _ p _ _ R.out N.out hx).mono ?_
    rintro e w' ⟨rfl, rfl⟩
    rw [H.out]
    go_wp2_with fail
    go_ret2
    exact ⟨none, 0, rfl, Own.none_ _ _ _, Below.refl _ _⟩
  · cases h' : polyB q
    · have hA : mlA p q = false := by unfold mlA; rw [h, h']; rfl
      rw [(ml_no hA).1, (ml_no hA).2]
      clear hA
      have N := Lib.hid hn; have R := Lib.hid hr; have H := Lib.hid h; have N' := Lib.hid hn'; have R' := Lib.hid hr'; have H' := Lib.hid h'; clear hn hr h hn' hr' h'
      go_enter Try.func21, Try.ntmps21
      go_wp2_with fail
      refine (pvI _ _ _ p _ _ R.out N.out hx).mono ?_
      rintro e w' ⟨rfl, rfl⟩
      rw [H.out]
      go_wp2_with fail
      refine (pvI _ _ _ q _ _ R'.out N'.out hx').mono ?_
      rintro e w' ⟨rfl, rfl⟩
      rw [H'.out]
      go_wp2_with fail
      go_ret2
      exact ⟨none, 0, rfl, Own.none_ _ _ _, Below.refl _ _⟩
    · by_cases h8 : n + n' ≤ 8
      · have hA : mlA p q = true := by unfold mlA; rw [h, h', decide_eq_true (by omega)]; rfl
        rw [(ml_yes hA).1, (ml_yes hA).2]
        exact mulPolys_impl_yes A n cap p A' n' cap' q w hr hr' hn hn' h h' h8
      · have hA : mlA p q = false := by unfold mlA; rw [decide_eq_false (by omega), Bool.and_false]
        have hg : (7 : Int) < (n : Int) + (n' : Int) - 1 := by omega
        rw [(ml_no hA).1, (ml_no hA).2]
        clear hA h8
        have N := Lib.hid hn; have R := Lib.hid hr; have H := Lib.hid h; have N' := Lib.hid hn'; have R' := Lib.hid hr'; have H' := Lib.hid h'; clear hn hr h hn' hr' h'
        go_enter Try.func21, Try.ntmps21
        go_wp2_with fail
        refine (pvI _ _ _ p _ _ R.out N.out hx).mono ?_
        rintro e w' ⟨rfl, rfl⟩
        rw [H.out]
        go_wp2_with fail
        refine (pvI _ _ _ q _ _ R'.out N'.out hx').mono ?_
        rintro e w' ⟨rfl, rfl⟩
        rw [H'.out]
        go_wp2_with fail
        go_ret2
        exact ⟨none, 0, rfl, Own.none_ _ _ _, Below.refl _ _⟩

set_option maxHeartbeats 2000000 in
theorem mulPolys_spec (A : Option Addr) (n cap : Nat) (p : List Int) (A' : Option Addr) (n' cap' : Nat) (q : List Int) (w : World) (hr : Row w w.heap.size A p) (hr' : Row w w.heap.size A' q) (hn : n = p.length) (hn' : n' = q.length) (hx : n ≤ 10000000) (hx' : n' ≤ 10000000) :
    Calls Try.prog 20 #[.slice A n cap, .slice A' n' cap'] w (GivesB w (mlP p q) (mlB p q)) := by
  have E := Lib.hid (empty_left (Below.refl w.heap.size w))
  cases h : polyB p
  · have hA : mlA p q = false := by unfold mlA; rw [h]; rfl
    rw [(ml_no hA).1, (ml_no hA).2]
    have N := Lib.hid hn; have R := Lib.hid hr; have H := Lib.hid h; clear hn hr h hA
    go_enter Try.func20, Try.ntmps20
    go_wp2_with fail
    refine (pvS _ _ _ p _ _ R.out N.out hx).mono ?_
    rintro e w' ⟨rfl, rfl⟩
    rw [H.out]
    go_wp2_with fail
    go_ret2
    exact ⟨_, _, rfl, E.out.1, E.out.2⟩
  · cases h' : polyB q
    · have hA : mlA p q = false := by unfold mlA; rw [h, h']; rfl
      rw [(ml_no hA).1, (ml_no hA).2]
      clear hA
      have N := Lib.hid hn; have R := Lib.hid hr; have H := Lib.hid h; have N' := Lib.hid hn'; have R' := Lib.hid hr'; have H' := Lib.hid h'; clear hn hr h hn' hr' h'
      go_enter Try.func20, Try.ntmps20
      go_wp2_with fail
      refine (pvS _ _ _ p _ _ R.out N.out hx).mono ?_
      rintro e w' ⟨rfl, rfl⟩
      rw [H.out]
      go_wp2_with fail
      refine (pvS _ _ _ q _ _ R'.out N'.out hx').mono ?_
      rintro e w' ⟨rfl, rfl⟩
      rw [H'.out]
      go_wp2_with fail
      go_ret2
      exact ⟨_, _, rfl, E.out.1, E.out.2⟩
    · by_cases h8 : n + n' ≤ 8
      · have hA : mlA p q = true := by unfold mlA; rw [h, h', decide_eq_true (by omega)]; rfl
        rw [(ml_yes hA).1, (ml_yes hA).2]
        exact mulPolys_spec_yes A n cap p A' n' cap' q w hr hr' hn hn' h h' h8
      · have hA : mlA p q = false := by unfold mlA; rw [decide_eq_false (by omega), Bool.and_false]
        have hg : (7 : Int) < (n : Int) + (n' : Int) - 1 := by omega
        rw [(ml_no hA).1, (ml_no hA).2]
        clear hA h8
        have N := Lib.hid hn; have R := Lib.hid hr; have H := Lib.hid h; have N' := Lib.hid hn'; have R' := Lib.hid hr'; have H' := Lib.hid h'; clear hn hr h hn' hr' h'
        go_enter Try.func20, Try.ntmps20
        go_wp2_with fail
        refine (pvS _ _ _ p _ _ R.out N.out hx).mono ?_
        rintro e w' ⟨rfl, rfl⟩
        rw [H.out]
        go_wp2_with fail
        refine (pvS _ _ _ q _ _ R'.out N'.out hx').mono ?_
        rintro e w' ⟨rfl, rfl⟩
        rw [H'.out]
        go_wp2_with fail
        go_ret2
        exact ⟨_, _, rfl, E.out.1, E.out.2⟩
end Go.Proofs.Ytbcmpgagceomgaa
