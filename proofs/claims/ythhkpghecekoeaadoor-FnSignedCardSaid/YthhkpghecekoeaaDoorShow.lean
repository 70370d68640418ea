/- The walks of remainders and of what shows a number as a column. -/
import Derived.Test.YthhkpghecekoeaaDoorColB
import Derived.Test.YthhkpghecekoeaaDoorMem
namespace Go.Proofs.YthhkpghecekoeaaDoor
open Go.RowKit

set_option maxHeartbeats 400000 in
theorem modulo_any (n m : Int) (w : World) (h1 : 1 ≤ m) (h2 : m ≤ 1000000000000) (h3 : -10000000000000 ≤ n) (h4 : n ≤ 10000000000000) :
    Calls Tryd.prog 27 #[.int .i64 n, .int .i64 m] w fun e w' => e = .returned (.int .i64 (n % m)) ∧ w = w' := by
  by_cases hn : 0 ≤ n
  · have hr : ¬ n % m < 0 := by have := Int.emod_nonneg n (show m ≠ 0 by omega); omega
    go_enter Tryd.func27, Tryd.ntmps27
    go_wp2
    go_ret
    exact ⟨rfl, rfl⟩
  · have e : n.tmod m = -((-n) % m) := by
      rw [← Int.tmod_eq_emod_of_nonneg (show 0 ≤ -n by omega), Int.neg_tmod, Int.neg_neg]
    have b1 := Int.emod_nonneg (-n) (show m ≠ 0 by omega)
    have b2 := Int.emod_lt_of_pos (-n) (show 0 < m by omega)
    by_cases hz : (-n) % m = 0
    · have e0 : n.tmod m = 0 := by omega
      have e1 : n % m = 0 := by
        have := Int.emod_emod_of_dvd n (Int.dvd_refl m)
        have hd : m ∣ n := by
          have := Int.dvd_of_emod_eq_zero hz
          exact (Int.dvd_neg).1 this
        exact Int.emod_eq_zero_of_dvd hd
      rw [e1]
      clear e hz b1 b2 e1
      have hl : ¬ n.tmod m < 0 := by omega
      go_enter Tryd.func27, Tryd.ntmps27
      go_wp2
      go_ret
      exact ⟨rfl, rfl⟩
    · have hl : n.tmod m < 0 := by omega
      have e1 : n % m = n.tmod m + m := by
        have h5 := Int.emod_add_mul_ediv n m
        have h6 := Int.tmod_add_mul_tdiv n m
        have h7 := Int.emod_nonneg n (show m ≠ 0 by omega)
        have h8 := Int.emod_lt_of_pos n (show 0 < m by omega)
        have h9 : m * (n / m - n.tdiv m) = n.tmod m - n % m := by rw [Int.mul_sub]; omega
        have ha : n / m - n.tdiv m = -1 := by
          have hlt : m * (n / m - n.tdiv m) < 0 := by omega
          have hgt : m * (n / m - n.tdiv m) > m * (-2) := by omega
          have c1 : n / m - n.tdiv m < 0 := by
            apply Classical.byContradiction; intro hc
            have := Int.mul_nonneg (show 0 ≤ m by omega) (show 0 ≤ n / m - n.tdiv m by omega)
            omega
          have c2 : -2 < n / m - n.tdiv m := by
            apply Classical.byContradiction; intro hc
            have := Int.mul_le_mul_of_nonneg_left (show n / m - n.tdiv m ≤ -2 by omega) (show 0 ≤ m by omega)
            omega
          omega
        rw [ha] at h9
        omega
      have hb : -m < n.tmod m := by omega
      rw [e1]
      clear e hz b1 b2 e1
      go_enter Tryd.func27, Tryd.ntmps27
      go_wp2
      go_ret
      exact ⟨rfl, rfl⟩

/-- One digit more is shown. -/
theorem show_step {W : World} {g : Nat} {t : TypeId} {v q j x : Nat} (h : Blk W g t (cB (List.replicate (q + 1) 0 ++ showL v j))) (hx : x = v / 10 ^ j) :
    Blk (W.setCell ⟨g, q, none⟩ (.int .u8 (48 + (x : Int) % 10))) g t (cB (List.replicate q 0 ++ showL v (j + 1))) := by
  have h2 := h.put q (.int .u8 ((dg x).toNat : Int))
  rw [cB_set, set_back] at h2
  rw [show (48 + (x : Int) % 10) = ((dg x).toNat : Int) by rw [dg_nat]; omega]
  subst hx
  exact h2

/-- The state of the loop that shows v: q + 1 places are to come, j are done. -/
def Showing (w : World) (v k : Nat) (vv i : Value) (wr : World) : Prop :=
  (∃ q j x : Nat, q + 1 + j = k ∧ i = .int .i64 (q : Int) ∧ vv = .int .i64 (x : Int) ∧ x ≤ v ∧ x = v / 10 ^ j ∧ Blk wr w.heap.size 5 (cB (List.replicate (q + 1) 0 ++ showL v j)) ∧ Below w.heap.size w wr) ∨
  (∃ x : Nat, i = .int .i64 (-1) ∧ vv = .int .i64 (x : Int) ∧ Blk wr w.heap.size 5 (cB (showL v k)) ∧ Below w.heap.size w wr)
theorem showing_start (w : World) (v k : Nat) : Showing w v (k + 1) (.int .i64 (v : Int)) (.int .i64 (k : Int)) (w.alloc (.cells (cB (List.replicate (k + 1) 0)) 5)) :=
  .inl ⟨k, 0, v, rfl, rfl, rfl, Nat.le_refl _, by simp, by simpa [showL] using Blk.new w _ _, (Below.refl _ _).alloc (Nat.le_refl _) _⟩
theorem showing_step {w wr : World} {v k q j x : Nat} (hq : q + 1 + j = k) (hxv : x ≤ v) (hx : x = v / 10 ^ j) (hb : Blk wr w.heap.size 5 (cB (List.replicate (q + 1) 0 ++ showL v j))) (hw : Below w.heap.size w wr) :
    Showing w v k (.int .i64 ((x : Int) / 10)) (.int .i64 ((q : Int) - 1)) (wr.setCell ⟨w.heap.size, q, none⟩ (.int .u8 (48 + (x : Int) % 10))) := by
  have h2 := show_step hb hx
  have hw2 := hw.setCell (p := ⟨w.heap.size, q, none⟩) (Nat.le_refl _) (.int .u8 (48 + (x : Int) % 10))
  cases q with
  | zero =>
    refine .inr ⟨x / 10, rfl, by congr 1, ?_, hw2⟩
    rw [show k = j + 1 by omega]
    exact h2
  | succ q =>
    refine .inl ⟨q, j + 1, x / 10, by omega, by congr 1; omega, by congr 1, by omega, by rw [hx, div_step], h2, hw2⟩

set_option maxHeartbeats 1000000 in
theorem showNumber_any (v k : Nat) (w : World) (hv : v ≤ 1000000000000000000) (h1 : 1 ≤ k) (h2 : k ≤ 12) :
    Calls Tryd.prog 26 #[.int .i64 (v : Int), .int .i64 (k : Int)] w fun e w' => e = .returned (.string (str (showL v k))) ∧ Below w.heap.size w w' := by
  obtain ⟨m, rfl⟩ : ∃ m, k = m + 1 := ⟨k - 1, by omega⟩
  have hmk := make_bytes (m + 1) (by omega) ((m : Int) + 1) (by omega)
  go_enter Tryd.func26, Tryd.ntmps26
  go_wp2
  go_loopw [0, 6] (fun vv i wr => Showing w v (m + 1) vv i wr) (fun _ i _ => (intOf i + 1).toNat)
  case atStart => exact showing_start w v m
  case round =>
    rcases hrel with ⟨q, j, x, hq, rfl, rfl, hxv, hx, hb, hw⟩ | ⟨x, rfl, rfl, hb, hw⟩
    · have hold := cB_cell hb (i := q) (by simp; omega)
      have hfree := hb.free q
      have S := Lib.hid (showing_step hq hxv hx hb hw)
      have hqm : q ≤ m := by omega
      clear hq hx hb hw
      go_wp2
      go_roundw
      case rel => exact S.out
      case measure => simp [intOf] <;> omega
    · have hc := string_of hb (m + 1) (m + 1) (by rw [showL_length])
      have B := Lib.hid hw; clear hb hw
      go_wp2
      go_ret
      exact ⟨rfl, B.out⟩

/-- The reference's way to a remainder. -/
theorem emod_way (n m : Int) (h : 1 ≤ m) : 0 ≤ n.tmod m + m ∧ (n.tmod m + m) % m = n % m := by
  have b1 := Int.lt_tmod_of_pos n (show 0 < m by omega)
  refine ⟨by omega, ?_⟩
  rw [Int.add_emod_right]
  have e := Int.tmod_add_mul_tdiv n m
  conv => rhs; rw [← e]
  rw [Int.add_mul_emod_self_left]

set_option maxHeartbeats 1000000 in
theorem l1Show_any (n : Int) (k : Nat) (w : World) (h1 : 1 ≤ k) (h2 : k ≤ 12) :
    Calls Tryd.prog 30 #[.int .i64 n, .int .i64 (k : Int)] w fun e w' => e = .returned (.string (str (showL (n % p10 k).toNat k))) ∧ Below w.heap.size w w' := by
  have hp := p10_pos k
  have hb := p10_big h2
  have t0 := Int.lt_tmod_of_pos n (show 0 < p10 k by omega)
  have t1 := Int.tmod_lt_of_pos n (show 0 < p10 k by omega)
  have e0 := (emod_way n (p10 k) hp).1
  have e1 := (emod_way n (p10 k) hp).2
  have m0 := Int.emod_nonneg n (show p10 k ≠ 0 by omega)
  have m1 := Int.emod_lt_of_pos n (show 0 < p10 k by omega)
  obtain ⟨v, hv⟩ := Int.eq_ofNat_of_zero_le m0
  rw [hv] at e1 m1
  rw [hv, Int.toNat_natCast]
  clear hv m0
  obtain ⟨m, rfl⟩ : ∃ m, k = m + 1 := ⟨k - 1, by omega⟩
  have hmk := make_bytes (m + 1) (by omega) ((m : Int) + 1) (by omega)
  have T := fun W => l1Ten_any (m + 1) W h2
  have HT := Lib.hid T; clear T
  go_enter Tryd.func30, Tryd.ntmps30
  go_wp2
  go_quiet ((go_at_call 34; exact quiet_l (HT.out _)))
  have back : ∀ W, Below (w.drewN nq).heap.size (w.drewN nq) W → Below w.heap.size w W := fun W h => (below_drewN (Below.refl _ w) nq).trans h
  generalize w.drewN nq = w2 at *
  have K := Lib.hid back; clear back
  go_wp2
  go_loopw [0, 6] (fun vv i wr => Showing w2 v (m + 1) vv i wr) (fun _ i _ => (intOf i + 1).toNat)
  case atStart => rw [e1]; exact showing_start _ v m
  case round =>
    rcases hrel with ⟨q, j, x, hq, rfl, rfl, hxv, hx, hb, hw⟩ | ⟨x, rfl, rfl, hb, hw⟩
    · have hold := cB_cell hb (i := q) (by simp; omega)
      have hfree := hb.free q
      have S := Lib.hid (showing_step hq hxv hx hb hw)
      have hqm : q ≤ m := by omega
      clear hq hx hb hw
      go_wp2
      go_roundw
      case rel => exact S.out
      case measure => simp [intOf] <;> omega
    · have hc := string_of hb (m + 1) (m + 1) (by rw [showL_length])
      have B := Lib.hid hw; clear hb hw
      go_wp2
      go_ret
      exact ⟨rfl, K.out _ B.out⟩
end Go.Proofs.YthhkpghecekoeaaDoor
