/- What columns show and stand for: the identities behind the laws of columns. Plain Lean: no program. -/
import Derived.Test.YthhkpghecekoeaaDoorAheadPlain
namespace Go.Proofs.YthhkpghecekoeaaDoor

theorem p10_nat (k : Nat) : p10 k = ((10 ^ k : Nat) : Int) := by unfold p10; rw [Int.natCast_pow]; rfl
theorem vN_showL (v j : Nat) : vN (showL v j) = v % 10 ^ j := by
  induction j with
  | zero => simp [showL, vN, Nat.mod_one]
  | succ j ih =>
    rw [showL, vN, showL_length, ih, dg_nat, Nat.add_sub_cancel_left, Nat.pow_succ, Nat.mod_mul, Nat.mul_comm, Nat.add_comm]
theorem val_emod (n : Int) (k : Nat) : val (showL (n % p10 k).toNat k) = n % p10 k := by
  have hp := p10_pos k
  have m0 := Int.emod_nonneg n (show p10 k ≠ 0 by omega)
  have m1 := Int.emod_lt_of_pos n (show 0 < p10 k by omega)
  obtain ⟨v, hv⟩ := Int.eq_ofNat_of_zero_le m0
  rw [hv] at m1 ⊢
  rw [p10_nat] at m1
  rw [Int.toNat_natCast, val_vN _ (showL_dig v k), vN_showL, Nat.mod_eq_of_lt (by omega)]
theorem showL_vN (l : List UInt8) (h : ∀ c ∈ l, 48 ≤ c.toNat ∧ c.toNat ≤ 57) : showL (vN l) l.length = l := by
  induction l with
  | nil => rfl
  | cons c l ih =>
    have hc := h c (List.mem_cons_self ..)
    have hl := fun x hx => h x (List.mem_cons_of_mem _ hx)
    have hp : 0 < 10 ^ l.length := Nat.pow_pos (by decide)
    have e : vN (c :: l) = vN l + 10 ^ l.length * (c.toNat - 48) := by rw [vN, Nat.mul_comm, Nat.add_comm]
    have e1 : vN (c :: l) / 10 ^ l.length = c.toNat - 48 := by
      rw [e, Nat.add_mul_div_left _ _ hp, Nat.div_eq_of_lt (vN_lt l hl), Nat.zero_add]
    have e2 : showL (vN (c :: l)) l.length = l := by
      rw [e, showL_add _ _ l.length l.length (Nat.le_refl _)]
      exact ih hl
    show dg (vN (c :: l) / 10 ^ l.length) :: showL (vN (c :: l)) l.length = c :: l
    rw [e1, e2]
    congr 1
    apply UInt8.toNat_inj.1
    rw [dg_nat]; omega
theorem col_ext {a b : List UInt8} (ha : colB a = true) (hb : colB b = true) (hl : a.length = b.length) (hv : val a = val b) : a = b := by
  rw [val_vN _ (colB_dig ha), val_vN _ (colB_dig hb)] at hv
  have e1 := showL_vN a (colB_dig ha)
  have e2 := showL_vN b (colB_dig hb)
  rw [← e1, ← e2, hl, Int.natCast_inj.1 hv]

/-- A shown number: a column of its width that shows it. -/
structure Shows (l : List UInt8) (k : Nat) (n : Int) : Prop where
  col : colB l = true
  len : l.length = k
  val : val l = n % p10 k
theorem shows_mk (n : Int) (k : Nat) (h1 : 1 ≤ k) (h2 : k ≤ 12) : Shows (showL (n % p10 k).toNat k) k n := ⟨showL_col _ _ h1 h2, showL_length _ _, val_emod n k⟩
theorem Shows.eq {a b : List UInt8} {k : Nat} {m n : Int} (ha : Shows a k m) (hb : Shows b k n) (h : m % p10 k = n % p10 k) : a = b :=
  col_ext ha.col hb.col (by rw [ha.len, hb.len]) (by rw [ha.val, hb.val, h])
theorem shows_self {l : List UInt8} (h : colB l = true) : Shows l l.length (val l) :=
  ⟨h, rfl, (Int.emod_eq_of_lt (val_lt_p10 h).1 (val_lt_p10 h).2).symm⟩
theorem Shows.kept {a : List UInt8} {k : Nat} {m n : Int} (ha : Shows a k m) (h : m % p10 k = n % p10 k) : Shows a k n := ⟨ha.col, ha.len, by rw [ha.val, h]⟩
theorem sum_shows {a b : List UInt8} (h : alikeB a b = true) : Shows (sumL a b) a.length (val a + val b) := by
  have hl := colB_len (alikeB_iff.1 h).1
  unfold sumL; rw [if_pos h]; exact shows_mk _ _ hl.1 hl.2
theorem sub_shows {a b : List UInt8} (h : alikeB a b = true) : Shows (subL a b) a.length (val a - val b) := by
  have hl := colB_len (alikeB_iff.1 h).1
  unfold subL; rw [if_pos h]; exact shows_mk _ _ hl.1 hl.2
theorem neg_shows {a : List UInt8} (h : colB a = true) : Shows (negL a) a.length (-val a) := by
  have hl := colB_len h
  unfold negL; rw [if_pos h]; exact shows_mk _ _ hl.1 hl.2
theorem Shows.alike {a b : List UInt8} {k : Nat} {m n : Int} (ha : Shows a k m) (hb : Shows b k n) : alikeB a b = true := alikeB_iff.2 ⟨ha.col, hb.col, by rw [ha.len, hb.len]⟩
theorem Shows.alike_self {a b : List UInt8} {m : Int} (hb : colB b = true) (ha : Shows a b.length m) : alikeB a b = true ∧ alikeB b a = true :=
  ⟨alikeB_iff.2 ⟨ha.col, hb, ha.len⟩, alikeB_iff.2 ⟨hb, ha.col, ha.len.symm⟩⟩

/-- Sums of columns. -/
theorem add_shows {a b : List UInt8} {k : Nat} {m n : Int} (ha : Shows a k m) (hb : Shows b k n) : Shows (sumL a b) k (m + n) := by
  have := sum_shows (ha.alike hb)
  rw [ha.len] at this
  exact this.kept (by rw [ha.val, hb.val, Int.emod_add_emod, Int.add_emod_emod])
theorem take_shows {a b : List UInt8} {k : Nat} {m n : Int} (ha : Shows a k m) (hb : Shows b k n) : Shows (subL a b) k (m - n) := by
  have := sub_shows (ha.alike hb)
  rw [ha.len] at this
  exact this.kept (by rw [ha.val, hb.val, Int.emod_sub_emod, Int.sub_emod_emod])
theorem turn_shows {a : List UInt8} {k : Nat} {m : Int} (ha : Shows a k m) : Shows (negL a) k (-m) := by
  have := neg_shows ha.col
  rw [ha.len] at this
  refine this.kept ?_
  rw [ha.val, ← Int.zero_sub, ← Int.zero_sub m, Int.sub_emod_emod]
theorem alikeB_turn (a b : List UInt8) : alikeB b a = alikeB a b := by
  rw [Bool.eq_iff_iff, alikeB_iff, alikeB_iff]
  exact ⟨fun h => ⟨h.2.1, h.1, h.2.2.symm⟩, fun h => ⟨h.2.1, h.1, h.2.2.symm⟩⟩
theorem sum_turned (a b : List UInt8) (h : alikeB a b = true) : sumL b a = sumL a b := by
  obtain ⟨ha, hb, hl⟩ := alikeB_iff.1 h
  have h1 := shows_self ha
  have h2 := shows_self hb
  rw [← hl] at h2
  exact (add_shows h2 h1).eq (add_shows h1 h2) (by rw [Int.add_comm])
theorem sum_undone (a b : List UInt8) (h : alikeB a b = true) : alikeB (sumL a b) b = true ∧ subL (sumL a b) b = a := by
  obtain ⟨ha, hb, hl⟩ := alikeB_iff.1 h
  have h1 := shows_self ha
  have h2 := shows_self hb
  rw [← hl] at h2
  have h3 := add_shows h1 h2
  exact ⟨h3.alike h2, (take_shows h3 h2).eq h1 (by rw [Int.add_sub_cancel])⟩
theorem sub_zero {a : List UInt8} (h : colB a = true) : alikeB a a = true ∧ Shows (subL a a) a.length 0 ∧ val (subL a a) = 0 := by
  have h1 := shows_self h
  have h2 := take_shows h1 h1
  rw [Int.sub_self] at h2
  exact ⟨h1.alike h1, h2, by rw [h2.val, Int.zero_emod]⟩
theorem sum_zero {a : List UInt8} (h : colB a = true) : alikeB a (subL a a) = true ∧ sumL a (subL a a) = a := by
  have h1 := shows_self h
  have h2 := (sub_zero h).2.1
  exact ⟨h1.alike h2, (add_shows h1 h2).eq h1 (by rw [Int.add_zero])⟩
theorem sum_three {a b x : List UInt8} (h : alikeB a b = true) (hx : colB x = true) (hl : x.length = a.length) :
    alikeB (sumL a b) x = true ∧ alikeB b x = true ∧ alikeB a (sumL b x) = true ∧ sumL (sumL a b) x = sumL a (sumL b x) := by
  obtain ⟨ha, hb, hab⟩ := alikeB_iff.1 h
  have h1 := shows_self ha
  have h2 := shows_self hb
  have h3 := shows_self hx
  rw [← hab] at h2
  rw [hl] at h3
  exact ⟨(add_shows h1 h2).alike h3, h2.alike h3, h1.alike (add_shows h2 h3), (add_shows (add_shows h1 h2) h3).eq (add_shows h1 (add_shows h2 h3)) (by rw [Int.add_assoc])⟩

/-- Which number a column stands for. -/
theorem sgn_range {l : List UInt8} (h : colB l = true) : -hf l.length ≤ sgnOf l ∧ sgnOf l < hf l.length ∧ sgnOf l % p10 l.length = val l := by
  have h1 := val_lt_p10 h
  have h2 := p10_half (colB_len h).1
  have e : val l % p10 l.length = val l := Int.emod_eq_of_lt h1.1 h1.2
  by_cases hv : val l < hf l.length
  · rw [sgnOf_lo h hv]; exact ⟨by omega, hv, e⟩
  · rw [sgnOf_hi h (by omega)]; exact ⟨by omega, by omega, by rw [Int.sub_emod_right]; exact e⟩
theorem mod_same {m n h p : Int} (hp : p = 2 * h) (m1 : -h ≤ m) (m2 : m < h) (n1 : -h ≤ n) (n2 : n < h) (e : m % p = n % p) : m = n := by
  have p0 : 0 < p := by omega
  have h1 := Int.emod_add_mul_ediv m p
  have h2 := Int.emod_add_mul_ediv n p
  have h3 : p * (m / p - n / p) = m - n := by rw [Int.mul_sub]; omega
  have c1 : m / p - n / p < 1 := by
    apply Classical.byContradiction; intro hc
    have := Int.mul_le_mul_of_nonneg_left (show 1 ≤ m / p - n / p by omega) (show 0 ≤ p by omega)
    omega
  have c2 : -1 < m / p - n / p := by
    apply Classical.byContradiction; intro hc
    have := Int.mul_le_mul_of_nonneg_left (show m / p - n / p ≤ -1 by omega) (show 0 ≤ p by omega)
    omega
  have c3 : m / p - n / p = 0 := by omega
  rw [c3] at h3
  omega
theorem Shows.sgn {l : List UInt8} {k : Nat} {n : Int} (h : Shows l k n) : sgnOf l % p10 k = n % p10 k := by
  have := (sgn_range h.col).2.2
  rw [h.len] at this
  rw [this, h.val]
theorem sgn_shown {l : List UInt8} {k : Nat} {n : Int} (h : Shows l k n) (h1 : -hf k ≤ n) (h2 : n < hf k) : sgnOf l = n := by
  have r := sgn_range h.col
  have hl := colB_len h.col
  rw [h.len] at r hl
  exact mod_same (p10_half hl.1) r.1 r.2.1 h1 h2 h.sgn
theorem colOf_shows {n width : Int} (h : colOfB n width = true) : Shows (colOfL n width) width.toNat n ∧ sgnOf (colOfL n width) = n := by
  have h1 := colOfB_iff.1 h
  have s : Shows (colOfL n width) width.toNat n := by rw [colOfL_yes h]; exact shows_mk _ _ (by omega) (by omega)
  exact ⟨s, sgn_shown s h1.2.1 h1.2.2⟩
theorem colOf_sgn {l : List UInt8} (h : colB l = true) : colOfB (sgnOf l) (l.length : Int) = true ∧ colOfL (sgnOf l) (l.length : Int) = l := by
  have hl := colB_len h
  have r := sgn_range h
  have e : colOfB (sgnOf l) (l.length : Int) = true := colOfB_iff.2 ⟨by omega, by rw [Int.toNat_natCast]; exact ⟨r.1, r.2.1⟩⟩
  have s := (colOf_shows e).1
  rw [Int.toNat_natCast] at s
  exact ⟨e, s.eq (shows_self h) (by rw [r.2.2]; exact (Int.emod_eq_of_lt (val_lt_p10 h).1 (val_lt_p10 h).2).symm)⟩

/-- The highest digit. -/
theorem hf_succ (k : Nat) : hf (k + 1) = 5 * p10 k := by unfold hf; rw [p10_succ]; omega
theorem head_half {l : List UInt8} (h : colB l = true) (h0 : 0 < l.length) : (53 ≤ l[0].toNat ↔ hf l.length ≤ val l) ∧ (val l = hf l.length → l[0].toNat = 53) := by
  cases l with
  | nil => exact absurd h0 (by decide)
  | cons c l =>
    have hd := colB_dig h
    have hc := hd c (List.mem_cons_self ..)
    have hl := vN_lt l (fun x hx => hd x (List.mem_cons_of_mem _ hx))
    rw [val_vN _ hd, List.length_cons, hf_succ, vN, p10_nat]
    show (53 ≤ c.toNat ↔ _) ∧ (_ → c.toNat = 53)
    obtain ⟨d, hd⟩ : ∃ d, c.toNat = 48 + d := ⟨c.toNat - 48, by omega⟩
    rw [hd, Nat.add_sub_cancel_left]
    generalize 10 ^ l.length = P at *
    generalize vN l = v at *
    have k1 : 5 ≤ d → 5 * P ≤ d * P := fun h => Nat.mul_le_mul_right _ h
    have k2 : d ≤ 4 → d * P ≤ 4 * P := fun h => Nat.mul_le_mul_right _ h
    have k3 : 6 ≤ d → 6 * P ≤ d * P := fun h => Nat.mul_le_mul_right _ h
    generalize d * P = X at *
    omega
theorem sgn_neg {l : List UInt8} (h : colB l = true) : sgnOf l < 0 ↔ hf l.length ≤ val l := by
  have h1 := val_lt_p10 h
  by_cases hv : val l < hf l.length
  · rw [sgnOf_lo h hv]; omega
  · rw [sgnOf_hi h (by omega)]; omega

/-- Which widths serve. -/
theorem hf_mono {a b : Nat} (h : a ≤ b) : hf a ≤ hf b := by have := p10_mono h; unfold hf; omega
theorem colOfB_mono {n : Int} {a b : Nat} (h : a ≤ b) (hb : b ≤ 12) (hc : colOfB n (a : Int) = true) : colOfB n (b : Int) = true := by
  have h1 := colOfB_iff.1 hc
  rw [Int.toNat_natCast] at h1
  have h2 := hf_mono h
  exact colOfB_iff.2 ⟨by omega, by rw [Int.toNat_natCast]; omega⟩
theorem widthFrom_low (n : Int) : ∀ f k : Nat, widthFrom n k f = 0 ∨ (k : Int) ≤ widthFrom n k f := by
  intro f
  induction f with
  | zero => intro k; exact .inl rfl
  | succ f ih =>
    intro k
    cases h : colOfB n (k : Int)
    · rw [widthFrom_no h]; rcases ih (k + 1) with h | h
      · exact .inl h
      · exact .inr (by omega)
    · rw [widthFrom_yes h]; exact .inr (Int.le_refl _)
theorem widthFrom_iff (n : Int) : ∀ f k : Nat, 1 ≤ k → k + f = 13 → ∀ j : Nat, k ≤ j → j ≤ 12 → (colOfB n (j : Int) = true ↔ 0 < widthFrom n k f ∧ widthFrom n k f ≤ j) := by
  intro f
  induction f with
  | zero => intro k _ hk j h1 h2; omega
  | succ f ih =>
    intro k k1 hk j h1 h2
    cases h : colOfB n (k : Int)
    · rw [widthFrom_no h]
      rcases Nat.eq_or_lt_of_le h1 with e | e
      · subst e
        rw [h]
        rcases widthFrom_low n f (k + 1) with h | h
        · simp [h]
        · constructor
          · intro h; cases h
          · intro h; omega
      · exact ih (k + 1) (by omega) (by omega) j e h2
    · rw [widthFrom_yes h]
      have := colOfB_mono h1 h2 h
      rw [this]
      constructor
      · intro _; omega
      · intro _; rfl
theorem widthFor_iff (n : Int) (j : Nat) (h1 : 1 ≤ j) (h2 : j ≤ 12) : colOfB n (j : Int) = true ↔ 0 < widthFor n ∧ widthFor n ≤ j := widthFrom_iff n 12 1 (by decide) (by decide) j h1 h2

/-- The sum of two columns stands for the sum of both numbers exactly if this has a column of their width. -/
theorem sum_signed {a b : List UInt8} (h : alikeB a b = true) : colB (sumL a b) = true ∧ (sgnOf (sumL a b) = sgnOf a + sgnOf b ↔ 0 < widthFor (sgnOf a + sgnOf b) ∧ widthFor (sgnOf a + sgnOf b) ≤ a.length) := by
  obtain ⟨ha, hb, hl⟩ := alikeB_iff.1 h
  have s := sum_shows h
  have hz := colB_len ha
  have r := sgn_range s.col
  have ra := sgn_range ha
  have rb := sgn_range hb
  rw [← hl] at rb
  rw [s.len] at r
  have e : sgnOf (sumL a b) % p10 a.length = (sgnOf a + sgnOf b) % p10 a.length := by
    rw [s.sgn, ← ra.2.2, ← rb.2.2, Int.emod_add_emod, Int.add_emod_emod]
  refine ⟨s.col, ?_⟩
  rw [← widthFor_iff _ _ hz.1 hz.2]
  constructor
  · intro h
    rw [h] at r
    exact colOfB_iff.2 ⟨by omega, by rw [Int.toNat_natCast]; exact ⟨r.1, r.2.1⟩⟩
  · intro h
    have h2 := (colOfB_iff.1 h).2
    rw [Int.toNat_natCast] at h2
    exact mod_same (p10_half hz.1) r.1 r.2.1 h2.1 h2.2 e

/-- A column and its opposite. -/
theorem neg_facts {c : List UInt8} (h : colB c = true) (h0 : 0 < c.length) : colB (negL c) = true ∧ alikeB c (negL c) = true ∧ colB (sumL c (negL c)) = true ∧ val (sumL c (negL c)) = 0 ∧ negL (negL c) = c ∧
    (sgnOf (negL c) = -sgnOf c ∨ sgnOf (negL c) = sgnOf c ∧ c[0].toNat = 53) := by
  have s := shows_self h
  have d := turn_shows s
  have z := add_shows s d
  rw [Int.add_right_neg] at z
  refine ⟨d.col, s.alike d, z.col, by rw [z.val, Int.zero_emod], (turn_shows d).eq s (by rw [Int.neg_neg]), ?_⟩
  have r := sgn_range h
  have rd := sgn_range d.col
  rw [d.len] at rd
  have hp := p10_half (colB_len h).1
  have e : sgnOf (negL c) % p10 c.length = (-sgnOf c) % p10 c.length := by
    rw [d.sgn, ← Int.zero_sub, ← Int.zero_sub (sgnOf c), ← r.2.2, Int.sub_emod_emod]
  by_cases hm : sgnOf c = -hf c.length
  · refine .inr ⟨?_, (head_half h h0).2 ?_⟩
    · rw [hm] at e ⊢
      refine mod_same hp rd.1 rd.2.1 (Int.le_refl _) (by have := hf_pos (colB_len h).1; omega) ?_
      rw [e, Int.neg_neg]
      rw [show hf c.length = -hf c.length + p10 c.length by omega, Int.add_emod_right]
      congr 1
      omega
    · have h1 := val_lt_p10 h
      have := hf_pos (colB_len h).1
      by_cases hv : val c < hf c.length
      · have := sgnOf_lo h hv; omega
      · have := sgnOf_hi h (by omega); omega
  · exact .inl (mod_same hp rd.1 rd.2.1 (by omega) (by omega) e)

/-- Another width. -/
theorem widen_facts {c : List UInt8} {width : Int} (h : colB c = true) : colOfB (sgnOf c) width = (decide (1 ≤ width) && decide (width ≤ 12) && decide (widthFor (sgnOf c) ≤ width)) := by
  have hl := colB_len h
  rw [Bool.eq_iff_iff]
  have hw := widthFor_iff (sgnOf c) c.length hl.1 hl.2
  have hc := hw.1 (colOf_sgn h).1
  simp only [Bool.and_eq_true, decide_eq_true_eq]
  constructor
  · intro hb
    have h1 := (colOfB_iff.1 hb).1
    obtain ⟨k, rfl⟩ := Int.eq_ofNat_of_zero_le (show 0 ≤ width by omega)
    have := (widthFor_iff (sgnOf c) k (by omega) (by omega)).1 hb
    omega
  · rintro ⟨⟨h1, h2⟩, h3⟩
    obtain ⟨k, rfl⟩ := Int.eq_ofNat_of_zero_le (show 0 ≤ width by omega)
    exact (widthFor_iff (sgnOf c) k (by omega) (by omega)).2 ⟨hc.1, h3⟩

/-- Remainders. -/
theorem p10_nine (k : Nat) : p10 k % 9 = 1 := by
  induction k with
  | zero => rfl
  | succ k ih => rw [p10_succ]; omega
theorem p10_eleven (k : Nat) : p10 k % 11 = if k % 2 = 1 then 10 else 1 := by
  induction k with
  | zero => rfl
  | succ k ih => rw [p10_succ]; split at ih <;> split <;> omega
theorem dvd_rest {a m : Int} (h : a % m = 0) : a.tmod m = 0 := Int.tmod_eq_zero_of_dvd (Int.dvd_of_emod_eq_zero h)
/-- What the highest wheel has lost. -/
theorem sum_lost {a b : List UInt8} (h : alikeB a b = true) : colB (sumL a b) = true ∧ (val (sumL a b) < val a ∧ val a + val b - p10 a.length = val (sumL a b) ∨ ¬ val (sumL a b) < val a ∧ val a + val b = val (sumL a b)) := by
  obtain ⟨ha, hb, hl⟩ := alikeB_iff.1 h
  have s := sum_shows h
  have va := val_lt_p10 ha
  have vb := val_lt_p10 hb
  rw [← hl] at vb
  refine ⟨s.col, ?_⟩
  rw [s.val]
  by_cases hc : val a + val b < p10 a.length
  · rw [Int.emod_eq_of_lt (by omega) hc]; omega
  · rw [← Int.sub_emod_right, Int.emod_eq_of_lt (by omega) (by omega)]; omega
/-- The sum of the digits. -/
def dsum (l : List UInt8) : Int := (l.map fun c => (c.toNat : Int) - 48).sum
theorem dsum_snoc (l : List UInt8) (c : UInt8) : dsum (l ++ [c]) = dsum l + ((c.toNat : Int) - 48) := by simp [dsum]
theorem dsum_bd (l : List UInt8) (h : ∀ c ∈ l, 48 ≤ c.toNat ∧ c.toNat ≤ 57) : 0 ≤ dsum l ∧ dsum l ≤ 9 * l.length := by
  induction l with
  | nil => exact ⟨by decide, by decide⟩
  | cons c l ih =>
    have hc := h c (List.mem_cons_self ..)
    have ih := ih (fun x hx => h x (List.mem_cons_of_mem _ hx))
    have e : dsum (c :: l) = ((c.toNat : Int) - 48) + dsum l := by simp [dsum]
    rw [e, List.length_cons]
    omega
theorem dsum_nine (l : List UInt8) : ∀ a b : Int, a % 9 = b % 9 → (l.foldl (fun v c => v * 10 + ((c.toNat : Int) - 48)) a) % 9 = (b + dsum l) % 9 := by
  induction l with
  | nil => intro a b h; simpa [dsum] using h
  | cons c l ih =>
    intro a b h
    have e : dsum (c :: l) = ((c.toNat : Int) - 48) + dsum l := by simp [dsum]
    rw [List.foldl_cons, ih _ (b + ((c.toNat : Int) - 48)) (by omega), e]
    congr 1
    omega
theorem val_nine (l : List UInt8) : val l % 9 = dsum l % 9 := by
  have := dsum_nine l 0 0 rfl
  rw [Int.zero_add] at this
  exact this
theorem cast_nines {a b : List UInt8} (h : alikeB a b = true) : (val a % 9 + val b % 9 - (if val (sumL a b) < val a then 1 else 0) - val (sumL a b) % 9).tmod 9 = 0 := by
  apply dvd_rest
  have hp := p10_nine a.length
  rcases (sum_lost h).2 with ⟨h1, h2⟩ | ⟨h1, h2⟩
  · rw [if_pos h1]; omega
  · rw [if_neg h1]; omega
theorem cast_elevens {a b : List UInt8} (h : alikeB a b = true) : (val a % 11 + val b % 11 - (if val (sumL a b) < val a then 1 else 0) * (if a.length % 2 = 1 then 10 else 1) - val (sumL a b) % 11).tmod 11 = 0 := by
  apply dvd_rest
  have hp := p10_eleven a.length
  rcases (sum_lost h).2 with ⟨h1, h2⟩ | ⟨h1, h2⟩
  · rw [if_pos h1]; split at hp <;> omega
  · rw [if_neg h1]; omega

/-- Wheels that are turned, and their marks. -/
theorem warned_at {x y : UInt8} (hx : 48 ≤ x.toNat ∧ x.toNat ≤ 57) (hy : 48 ≤ y.toNat ∧ y.toNat ≤ 57) :
    ((warnD x y).toNat = 49 ∧ (turnD x y).toNat < x.toNat ∧ (turnD x y).toNat ≠ 57) ∨ ((warnD x y).toNat = 48 ∧ ¬ (turnD x y).toNat < x.toNat) := by
  unfold warnD turnD
  rw [UInt8.toNat_ofNat']
  split
  · refine .inl ⟨rfl, by omega, by omega⟩
  · refine .inr ⟨rfl, by omega⟩
end Go.Proofs.YthhkpghecekoeaaDoor
