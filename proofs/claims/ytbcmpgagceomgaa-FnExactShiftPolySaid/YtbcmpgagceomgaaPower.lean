/- The walks of both texts of FromPowers. -/
import Derived.Test.YtbcmpgagceomgaaFirsts
import Derived.Test.YtbcmpgagceomgaaScale
namespace Go.Proofs.Ytbcmpgagceomgaa
open Go.RowKit

theorem take_push' {L : List Int} {k : Nat} {x : Int} (h : k < L.length) (hx : L[k] = x) : L.take k ++ [x] = L.take (k + 1) := by
  rw [List.take_succ_eq_append_getElem h, hx]
/-- The value of coefficients of powers. -/
def hornerL : List Int → Int → Int
  | [], _ => 0
  | a :: r, n => hornerL r n * n + a
theorem horner_step {c : List Int} {n : Int} {r : Nat} (h : r < c.length) : hornerL (c.drop r) n = hornerL (c.drop (r + 1)) n * n + c[r] := by
  rw [List.drop_eq_getElem_cons h, hornerL]
theorem horner_bd {c : List Int} (hb : ∀ x ∈ c, -100000 ≤ x ∧ x ≤ 100000) {n : Int} (h0 : 0 ≤ n) (h6 : n ≤ 6) : -(100000 * 7 ^ c.length) ≤ hornerL c n ∧ hornerL c n ≤ 100000 * 7 ^ c.length := by
  induction c with
  | nil => simp [hornerL]
  | cons a r ih =>
    have ih := ih fun x hx => hb x (List.mem_cons_of_mem _ hx)
    have ha := hb a (List.mem_cons_self ..)
    have hp : (1 : Int) ≤ 7 ^ r.length := by have : (0 : Int) < 7 ^ r.length := Int.pow_pos (by decide); omega
    have hm := mul_bd (hornerL r n) n (100000 * 7 ^ r.length) 6 (by omega) (by decide) ih.1 ih.2 (by omega) h6
    rw [hornerL, List.length_cons, Int.pow_succ]
    omega
theorem horner_small {c : List Int} (hb : ∀ x ∈ c, -100000 ≤ x ∧ x ≤ 100000) (h7 : c.length ≤ 7) {n : Int} (h0 : 0 ≤ n) (h6 : n ≤ 6) : -82354300000 ≤ hornerL c n ∧ hornerL c n ≤ 82354300000 := by
  have h := horner_bd hb h0 h6
  have e : (100000 : Int) * 7 ^ c.length ≤ 82354300000 := by
    have h4 : (7 : Nat) ^ c.length ≤ 7 ^ 7 := Nat.pow_le_pow_right (by decide) h7
    have e4 : ((7 ^ c.length : Nat) : Int) = (7 : Int) ^ c.length := by rw [Int.natCast_pow]; rfl
    have e7 : (7 : Nat) ^ 7 = 823543 := by decide
    rw [← e4]; omega
  omega
theorem horner_drop {c : List Int} (hb : ∀ x ∈ c, -100000 ≤ x ∧ x ≤ 100000) (h7 : c.length ≤ 7) {n : Int} (h0 : 0 ≤ n) (h6 : n ≤ 6) (q : Nat) : -82354300000 ≤ hornerL (c.drop q) n ∧ hornerL (c.drop q) n ≤ 82354300000 :=
  horner_small (fun x hx => hb x (List.mem_of_mem_drop hx)) (by rw [List.length_drop]; omega) h0 h6
theorem horner_mul {h n : Int} (hb : -82354300000 ≤ h ∧ h ≤ 82354300000) (h0 : 0 ≤ n) (h6 : n ≤ 6) : -494125800000 ≤ h * n ∧ h * n ≤ 494125800000 := by
  have := mul_bd h n 82354300000 6 (by decide) (by decide) hb.1 hb.2 (by omega) h6
  omega

/-- The values at 0, 1 and so on. -/
def powL (c : List Int) : List Int := (List.range c.length).map fun i : Nat => hornerL c (i : Int)
theorem powL_length (c : List Int) : (powL c).length = c.length := by simp [powL]
theorem powL_at {c : List Int} {j : Nat} (h : j < (powL c).length) : (powL c)[j] = hornerL c (j : Int) := by simp [powL]
theorem powL_bd {c : List Int} (hb : ∀ x ∈ c, -100000 ≤ x ∧ x ≤ 100000) (h7 : c.length ≤ 7) : ∀ x ∈ powL c, -82354300000 ≤ x ∧ x ≤ 82354300000 := by
  intro x hx
  obtain ⟨j, hj, rfl⟩ := List.getElem_of_mem hx
  rw [powL_at hj]
  have := powL_length c
  exact horner_small hb h7 (by omega) (by omega)
theorem pow7 {n : Nat} (h : n ≤ 7) (M : Int) (h0 : 0 ≤ M) (hM : M ≤ 88270000000000000) : M * 2 ^ n ≤ 16000000000000000000 := by
  have h4 : (2 : Nat) ^ n ≤ 2 ^ 7 := Nat.pow_le_pow_right (by decide) h
  have e4 : ((2 ^ n : Nat) : Int) = (2 : Int) ^ n := by rw [Int.natCast_pow]; rfl
  have e7 : (2 : Nat) ^ 7 = 128 := by decide
  have h5 : (2 : Int) ^ n ≤ 128 := by rw [← e4]; omega
  have := Int.mul_le_mul_of_nonneg_left h5 h0
  omega

set_option maxHeartbeats 1000000 in
theorem l2Result_any (A : Option Addr) (n cap : Nat) (vs : List Int) (M : Int) (w : World) (hr : Row w w.heap.size A vs) (hn : n = vs.length) (hx : n ≤ 7) (h0 : 0 ≤ M) (hM : M ≤ 88270000000000000) (hb : ∀ x ∈ vs, -M ≤ x ∧ x ≤ M) :
    Calls Try.prog 32 #[.slice A n cap] w (GivesB w (keepP (firsts vs)) (polyB (firsts vs))) := by
  have hl : n = (firsts vs).length := by rw [firsts_length]; exact hn
  have L := Lib.hid hl; have N := Lib.hid hn; have R := Lib.hid hr; have HB := Lib.hid hb; clear hn hr hb hl
  go_enter Try.func32, Try.ntmps32
  go_wp2_with (go_at_call 53; refine (firsts_spec _ _ _ vs M _ R.out N.out (by omega) (pow7 hx M h0 hM) h0 HB.out).mono ?_; rintro e w2 hg; obtain ⟨A2, c2, rfl, o2, b2⟩ := hg.len n L.out; have O2 := Lib.hid o2; have B2 := Lib.hid b2; have E2 := Lib.hid (empty_left b2); clear hg o2 b2)
  cases hp : polyB (firsts vs)
  · have P := Lib.hid hp; clear hp
    go_wp2_with (go_at_call 30; refine (pvS _ _ _ (firsts vs) _ _ O2.out.row L.out (by omega)).mono ?_; rintro e w' ⟨rfl, rfl⟩; rw [P.out])
    go_ret2
    exact keep_no P.out E2.out.1 E2.out.2
  · have P := Lib.hid hp; clear hp
    go_wp2_with (go_at_call 30; refine (pvS _ _ _ (firsts vs) _ _ O2.out.row L.out (by omega)).mono ?_; rintro e w' ⟨rfl, rfl⟩; rw [P.out])
    go_ret2
    exact keep_yes P.out L.out O2.out B2.out

/-- What FromPowers returns. -/
def fpB (c : List Int) : Bool := polyB c && polyB (firsts (powL c))
def fpP (c : List Int) : List Int := if fpB c = true then firsts (powL c) else []
theorem fp_no {c : List Int} (h : polyB c = false) : fpB c = false ∧ fpP c = [] := by
  have : fpB c = false := by unfold fpB; rw [h]; rfl
  exact ⟨this, by unfold fpP; rw [this]; rfl⟩
theorem fp_yes {c : List Int} (h : polyB c = true) : fpB c = polyB (firsts (powL c)) ∧ fpP c = keepP (firsts (powL c)) := by
  have : fpB c = polyB (firsts (powL c)) := by unfold fpB; rw [h]; rfl
  exact ⟨this, by unfold fpP keepP; rw [this]⟩
theorem fpP_length (c : List Int) : (fpP c).length ≤ 7 := by
  unfold fpP
  split
  · rename_i h
    unfold fpB at h
    exact (poly_len (Bool.and_eq_true_iff.1 h).2).2
  · decide

/-- The block while one value is being worked out. -/
def hornS (c : List Int) (k q : Nat) : List Int := (part (powL c) k).set k (hornerL (c.drop q) k)
theorem hornS_start {c : List Int} {k : Nat} (hk : k < c.length) : hornS c k c.length = part (powL c) k := by
  unfold hornS
  rw [List.drop_of_length_le (Nat.le_refl _)]
  have hp : (part (powL c) k)[k]'(by rw [part_length _ _ (by rw [powL_length]; omega), powL_length]; exact hk) = 0 := by
    have hlt : (List.take k (powL c)).length = k := by rw [List.length_take, powL_length]; omega
    unfold part
    rw [List.getElem_append_right (by omega), List.getElem_replicate]
  have hlk : k < (part (powL c) k).length := by rw [part_length _ _ (by rw [powL_length]; omega), powL_length]; exact hk
  have e : (part (powL c) k).set k ((part (powL c) k)[k]'hlk) = part (powL c) k := List.set_getElem_self hlk
  rw [hp] at e
  exact e
theorem hornS_end {c : List Int} {k : Nat} (hk : k < c.length) : hornS c k 0 = part (powL c) (k + 1) := by
  have hk' : k < (powL c).length := by rw [powL_length]; exact hk
  have h := part_step (powL c) k hk'
  rw [powL_at hk'] at h
  exact h
theorem hornS_length {c : List Int} {k q : Nat} (hk : k < c.length) : (hornS c k q).length = c.length := by
  unfold hornS
  rw [List.length_set, part_length _ _ (by rw [powL_length]; omega), powL_length]
theorem hornS_at {W : World} {g : Nat} {t : TypeId} {c : List Int} {k q : Nat} (hk : k < c.length) (h : Blk W g t (cI (hornS c k q))) : W.cell? ⟨g, k, none⟩ = some (.int .i64 (hornerL (c.drop q) k)) := by
  rw [cI_cell h (by rw [hornS_length hk]; exact hk)]
  unfold hornS
  rw [List.getElem_set_self]
theorem hornS_step {W : World} {g : Nat} {t : TypeId} {c : List Int} {k r : Nat} {x : Int} (h : Blk W g t (cI (hornS c k (r + 1)))) (hx : hornerL (c.drop r) k = x) : Blk (W.setCell ⟨g, k, none⟩ (.int .i64 x)) g t (cI (hornS c k r)) := by
  subst hx
  have h2 := h.put k (.int .i64 (hornerL (c.drop r) k))
  rw [cI_set] at h2
  unfold hornS at h2
  rw [List.set_set] at h2
  exact h2