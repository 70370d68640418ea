/- Columns as lists of bytes: what a column is, what it shows, how a number is written. Plain Lean: no program. -/
namespace Go.Proofs.Ytbcmpgagceomgaa

/-- A string made of these bytes, and the bytes of a string: both closed to the walk. -/
def str (l : List UInt8) : ByteArray := ⟨l.toArray⟩
def bl (s : ByteArray) : List UInt8 := s.data.toList
theorem bl_str (l : List UInt8) : bl (str l) = l := by simp [bl, str]
theorem str_bl (s : ByteArray) : str (bl s) = s := by cases s; simp [bl, str]
theorem length_bl (s : ByteArray) : (bl s).length = s.size := by simp [bl]
theorem size_str (l : List UInt8) : (str l).size = l.length := by simp [str, ByteArray.size]
theorem str_inj {a b : List UInt8} (h : str a = str b) : a = b := by rw [← bl_str a, h, bl_str]
theorem bl_inj {a b : ByteArray} (h : bl a = bl b) : a = b := by rw [← str_bl a, h, str_bl]
theorem bl_at (s : ByteArray) (k : Nat) (h : k < s.size) : (bl s)[k]? = some s[k] := by
  unfold bl; rw [List.getElem?_eq_getElem (by simpa using h)]; rfl
theorem take_bl (s : ByteArray) (k : Nat) (h : k < s.size) : (bl s).take (k + 1) = (bl s).take k ++ [s[k]] := by
  unfold bl; rw [List.take_succ_eq_append_getElem (by simpa using h)]; rfl

/-- A digit; a column. -/
def dig (c : UInt8) : Bool := decide (48 ≤ c.toNat ∧ c.toNat ≤ 57)
theorem dig_iff {c : UInt8} : dig c = true ↔ 48 ≤ c.toNat ∧ c.toNat ≤ 57 := by simp [dig]
def colB (l : List UInt8) : Bool := decide (1 ≤ l.length ∧ l.length ≤ 12) && l.all dig
theorem colB_len {l : List UInt8} (h : colB l = true) : 1 ≤ l.length ∧ l.length ≤ 12 := by
  simp only [colB, Bool.and_eq_true, decide_eq_true_eq] at h; exact h.1
theorem colB_dig {l : List UInt8} (h : colB l = true) : ∀ c ∈ l, 48 ≤ c.toNat ∧ c.toNat ≤ 57 := by
  simp only [colB, Bool.and_eq_true, List.all_eq_true] at h; exact fun c hc => dig_iff.1 (h.2 c hc)
theorem colB_mk {l : List UInt8} (h1 : 1 ≤ l.length) (h2 : l.length ≤ 12) (h : ∀ c ∈ l, 48 ≤ c.toNat ∧ c.toNat ≤ 57) : colB l = true := by
  simp only [colB, Bool.and_eq_true, List.all_eq_true, decide_eq_true_eq]; exact ⟨⟨h1, h2⟩, fun c hc => dig_iff.2 (h c hc)⟩
theorem colB_long {l : List UInt8} (h : l.length < 1 ∨ 12 < l.length) : colB l = false := by
  unfold colB; rw [decide_eq_false (by omega)]; rfl
theorem colB_bad {l : List UInt8} {k : Nat} {c : UInt8} (hk : l[k]? = some c) (h : ¬ (48 ≤ c.toNat ∧ c.toNat ≤ 57)) : colB l = false := by
  rw [Bool.eq_false_iff]; intro hb
  exact h (colB_dig hb c (List.mem_of_getElem? hk))
theorem mem_at {l : List UInt8} {k : Nat} {c : UInt8} (hk : l[k]? = some c) : c ∈ l := List.mem_of_getElem? hk
theorem mem_take_snoc {P : UInt8 → Prop} {s : ByteArray} {k : Nat} (h : k < s.size) (ha : ∀ c ∈ (bl s).take k, P c) (hb : P s[k]) : ∀ c ∈ (bl s).take (k + 1), P c := by
  rw [take_bl s k h]
  intro c hc
  rcases List.mem_append.1 hc with hc | hc
  · exact ha c hc
  · rw [List.mem_singleton.1 hc]; exact hb
theorem take_bl_all (s : ByteArray) : (bl s).take s.size = bl s := List.take_of_length_le (by rw [length_bl]; exact Nat.le_refl _)

/-- What a column shows. -/
def val (l : List UInt8) : Int := l.foldl (fun v c => v * 10 + ((c.toNat : Int) - 48)) 0
theorem val_snoc (l : List UInt8) (c : UInt8) : val (l ++ [c]) = val l * 10 + ((c.toNat : Int) - 48) := by
  unfold val; rw [List.foldl_append]; rfl
theorem val_take (s : ByteArray) (k : Nat) (h : k < s.size) : val ((bl s).take (k + 1)) = val ((bl s).take k) * 10 + ((s[k].toNat : Int) - 48) := by
  rw [take_bl s k h, val_snoc]
theorem fold_bd (l : List UInt8) : ∀ a B : Int, (∀ c ∈ l, 48 ≤ c.toNat ∧ c.toNat ≤ 57) → 0 ≤ a → a < B →
    0 ≤ l.foldl (fun v c => v * 10 + ((c.toNat : Int) - 48)) a ∧ l.foldl (fun v c => v * 10 + ((c.toNat : Int) - 48)) a < B * 10 ^ l.length := by
  induction l with
  | nil => intro a B _ h0 h1; simp; omega
  | cons c l ih =>
    intro a B h h0 h1
    have hc := h c (List.mem_cons_self ..)
    have ih := ih (a * 10 + ((c.toNat : Int) - 48)) (B * 10) (fun x hx => h x (List.mem_cons_of_mem _ hx)) (by omega) (by omega)
    rw [List.foldl_cons, List.length_cons, Int.pow_succ, Int.mul_comm (10 ^ l.length) 10, ← Int.mul_assoc]
    exact ih
theorem val_bd (l : List UInt8) (h : ∀ c ∈ l, 48 ≤ c.toNat ∧ c.toNat ≤ 57) : 0 ≤ val l ∧ val l < 10 ^ l.length := by
  have := fold_bd l 0 1 h (by decide) (by decide)
  rw [Int.one_mul] at this
  exact this

/-- Powers of ten, closed to the walk; half of one. -/
def p10 (k : Nat) : Int := 10 ^ k
theorem p10_succ (k : Nat) : p10 (k + 1) = p10 k * 10 := Int.pow_succ ..
theorem p10_zero : p10 0 = 1 := rfl
theorem p10_pos (k : Nat) : 1 ≤ p10 k := by
  have : 0 < (10 : Int) ^ k := Int.pow_pos (by decide)
  unfold p10; omega
theorem p10_mono {a b : Nat} (h : a ≤ b) : p10 a ≤ p10 b := by
  induction b with
  | zero => obtain rfl : a = 0 := by omega
            exact Int.le_refl _
  | succ b ih =>
    rcases Nat.eq_or_lt_of_le h with e | e
    · subst e; exact Int.le_refl _
    · have := ih (by omega); have := p10_pos b; rw [p10_succ]; omega
theorem p10_big {k : Nat} (h : k ≤ 12) : p10 k ≤ 1000000000000 := by
  have := p10_mono h; have e : p10 12 = 1000000000000 := by decide
  omega
def hf (k : Nat) : Int := p10 k / 2
theorem p10_half {k : Nat} (h : 1 ≤ k) : p10 k = 2 * hf k := by
  obtain ⟨j, rfl⟩ : ∃ j, k = j + 1 := ⟨k - 1, by omega⟩
  unfold hf; rw [p10_succ]; omega
theorem hf_pos {k : Nat} (h : 1 ≤ k) : 1 ≤ hf k := by have := p10_half h; have := p10_pos k; omega
theorem half_down {k : Nat} (h : 1 ≤ k) : (-p10 k).tdiv 2 = -hf k := by
  rw [p10_half h, Int.neg_tdiv, Int.mul_tdiv_cancel_left _ (by decide)]

/-- A digit's byte; the low digits of a number, that of the highest place first. -/
def dg (n : Nat) : UInt8 := UInt8.ofNat (48 + n % 10)
theorem dg_nat (n : Nat) : (dg n).toNat = 48 + n % 10 := by
  unfold dg; rw [UInt8.toNat_ofNat']; omega
def showL (v : Nat) : Nat → List UInt8
  | 0 => []
  | j + 1 => dg (v / 10 ^ j) :: showL v j
theorem showL_length (v j : Nat) : (showL v j).length = j := by
  induction j with
  | zero => rfl
  | succ j ih => simp [showL, ih]
theorem showL_dig (v j : Nat) : ∀ c ∈ showL v j, 48 ≤ c.toNat ∧ c.toNat ≤ 57 := by
  induction j with
  | zero => intro c hc; cases hc
  | succ j ih =>
    intro c hc
    rcases List.mem_cons.1 hc with rfl | hc
    · rw [dg_nat]; omega
    · exact ih c hc
theorem showL_col (v j : Nat) (h1 : 1 ≤ j) (h2 : j ≤ 12) : colB (showL v j) = true :=
  colB_mk (by rw [showL_length]; exact h1) (by rw [showL_length]; exact h2) (showL_dig v j)

/-- The cells of a row of bytes. -/
theorem div_step (v j : Nat) : v / 10 ^ j / 10 = v / 10 ^ (j + 1) := by rw [Nat.pow_succ, Nat.div_div_eq_div_mul]

/-- A row of bytes under way: the first are as they were made (0), the last are done. -/
theorem set_back (m : Nat) (r : List UInt8) (d : UInt8) : (List.replicate (m + 1) (0 : UInt8) ++ r).set m d = List.replicate m 0 ++ d :: r := by
  rw [List.replicate_succ', List.append_assoc, List.set_append_right _ _ (by simp)]
  simp
theorem set_front (x : List UInt8) (m : Nat) (d : UInt8) : (x ++ List.replicate (m + 1) (0 : UInt8)).set x.length d = (x ++ [d]) ++ List.replicate m 0 := by
  rw [List.set_append_right _ _ (Nat.le_refl _), List.replicate_succ]
  simp

/-- What ColumnOf returns. -/
def colOfB (n width : Int) : Bool := decide (1 ≤ width ∧ width ≤ 12) && decide (-hf width.toNat ≤ n ∧ n < hf width.toNat)
def colOfL (n width : Int) : List UInt8 := if colOfB n width = true then showL (n % p10 width.toNat).toNat width.toNat else []
theorem colOfL_yes {n width : Int} (h : colOfB n width = true) : colOfL n width = showL (n % p10 width.toNat).toNat width.toNat := if_pos h
theorem colOfL_no {n width : Int} (h : colOfB n width = false) : colOfL n width = [] := by unfold colOfL; rw [h]; rfl
theorem colOfB_iff {n width : Int} : colOfB n width = true ↔ (1 ≤ width ∧ width ≤ 12) ∧ -hf width.toNat ≤ n ∧ n < hf width.toNat := by
  simp [colOfB]

/-- What SignedOf returns. -/
def sgnOf (l : List UInt8) : Int := if colB l = true then (if val l < hf l.length then val l else val l - p10 l.length) else 0
theorem sgnOf_no {l : List UInt8} (h : colB l = false) : sgnOf l = 0 := by unfold sgnOf; rw [h]; rfl
theorem sgnOf_lo {l : List UInt8} (h : colB l = true) (h2 : val l < hf l.length) : sgnOf l = val l := by unfold sgnOf; rw [if_pos h, if_pos h2]
theorem sgnOf_hi {l : List UInt8} (h : colB l = true) (h2 : hf l.length ≤ val l) : sgnOf l = val l - p10 l.length := by unfold sgnOf; rw [if_pos h, if_neg (by omega)]
theorem val_lt_p10 {l : List UInt8} (h : colB l = true) : 0 ≤ val l ∧ val l < p10 l.length := val_bd l (colB_dig h)
theorem sgnOf_bd (l : List UInt8) : -1000000000000 ≤ sgnOf l ∧ sgnOf l ≤ 1000000000000 := by
  unfold sgnOf
  split
  · rename_i h
    have h1 := val_lt_p10 h
    have h2 := p10_big (colB_len h).2
    split <;> omega
  · omega

/-- What WidthFor returns: the least width that serves. -/
def widthFrom (n : Int) : Nat → Nat → Int
  | _, 0 => 0
  | k, f + 1 => if colOfB n k = true then k else widthFrom n (k + 1) f
def widthFor (n : Int) : Int := widthFrom n 1 12
theorem widthFrom_yes {n : Int} {k f : Nat} (h : colOfB n k = true) : widthFrom n k (f + 1) = k := if_pos h
theorem widthFrom_no {n : Int} {k f : Nat} (h : colOfB n k = false) : widthFrom n k (f + 1) = widthFrom n (k + 1) f := by
  show (if colOfB n k = true then _ else _) = _
  rw [h]; rfl

/-- Two columns of one width. -/
def alikeB (a b : List UInt8) : Bool := colB a && colB b && decide (a.length = b.length)
theorem alikeB_iff {a b : List UInt8} : alikeB a b = true ↔ colB a = true ∧ colB b = true ∧ a.length = b.length := by
  simp [alikeB, and_assoc]

/-- What the functions of two columns return. -/
def sumL (a b : List UInt8) : List UInt8 := if alikeB a b = true then showL ((val a + val b) % p10 a.length).toNat a.length else []
def subL (a b : List UInt8) : List UInt8 := if alikeB a b = true then showL ((val a - val b) % p10 a.length).toNat a.length else []
def negL (a : List UInt8) : List UInt8 := if colB a = true then showL ((-val a) % p10 a.length).toNat a.length else []
def turnD (x y : UInt8) : UInt8 := UInt8.ofNat (48 + (x.toNat - 48 + (y.toNat - 48)) % 10)
def warnD (x y : UInt8) : UInt8 := if 106 ≤ x.toNat + y.toNat then 49 else 48
def turnW (a b : List UInt8) : List UInt8 := List.zipWith turnD a b
def warnW (a b : List UInt8) : List UInt8 := List.zipWith warnD a b
def turnL (a b : List UInt8) : List UInt8 := if alikeB a b = true then turnW a b else []
def warnL (a b : List UInt8) : List UInt8 := if alikeB a b = true then warnW a b else []
end Go.Proofs.Ytbcmpgagceomgaa
