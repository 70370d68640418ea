/- Marks, moved to the next higher wheel; a sum's digits with the carry. Plain Lean: no program. -/
import Derived.Test.YthhkpghecekoeaaDoorColPlain
namespace Go.Proofs.YthhkpghecekoeaaDoor

/-- What digits show, as a natural number, from the highest place on. -/
def vN : List UInt8 → Nat
  | [] => 0
  | c :: l => (c.toNat - 48) * 10 ^ l.length + vN l
theorem fold_vN (l : List UInt8) (h : ∀ c ∈ l, 48 ≤ c.toNat ∧ c.toNat ≤ 57) : ∀ a : Int, l.foldl (fun v c => v * 10 + ((c.toNat : Int) - 48)) a = a * 10 ^ l.length + (vN l : Int) := by
  induction l with
  | nil => intro a; simp [vN]
  | cons c l ih =>
    intro a
    have hc := h c (List.mem_cons_self ..)
    rw [List.foldl_cons, ih (fun x hx => h x (List.mem_cons_of_mem _ hx)), vN, List.length_cons, Int.pow_succ, Int.add_mul]
    have e : ((c.toNat : Int) - 48) = ((c.toNat - 48 : Nat) : Int) := by omega
    rw [e, Int.natCast_add, Int.natCast_mul, Int.natCast_pow, Int.mul_comm (10 ^ l.length) 10, ← Int.mul_assoc, Int.add_assoc]
    rfl
theorem val_vN (l : List UInt8) (h : ∀ c ∈ l, 48 ≤ c.toNat ∧ c.toNat ≤ 57) : val l = (vN l : Int) := by
  have := fold_vN l h 0
  rw [Int.zero_mul, Int.zero_add] at this
  exact this
theorem vN_lt (l : List UInt8) (h : ∀ c ∈ l, 48 ≤ c.toNat ∧ c.toNat ≤ 57) : vN l < 10 ^ l.length := by
  induction l with
  | nil => simp [vN]
  | cons c l ih =>
    have hc := h c (List.mem_cons_self ..)
    have ih := ih (fun x hx => h x (List.mem_cons_of_mem _ hx))
    rw [vN, List.length_cons, Nat.pow_succ]
    have : (c.toNat - 48) * 10 ^ l.length ≤ 9 * 10 ^ l.length := Nat.mul_le_mul_right _ (by omega)
    omega
theorem vN_drop (l : List UInt8) (q : Nat) (h : q < l.length) : vN (l.drop q) = (l[q].toNat - 48) * 10 ^ (l.length - (q + 1)) + vN (l.drop (q + 1)) := by
  rw [List.drop_eq_getElem_cons h, vN, List.length_drop]

/-- The low digits do not see what lies above them. -/
theorem showL_add (v t j : Nat) : ∀ i, i ≤ j → showL (v + 10 ^ j * t) i = showL v i := by
  intro i
  induction i with
  | zero => intro _; rfl
  | succ i ih =>
    intro hi
    rw [showL, showL, ih (by omega)]
    congr 1
    obtain ⟨d, hd⟩ : ∃ d, j = i + 1 + d := ⟨j - (i + 1), by omega⟩
    have e : 10 ^ j * t = 10 ^ i * (10 * (10 ^ d * t)) := by
      rw [hd, Nat.pow_add, Nat.pow_succ, Nat.mul_assoc, Nat.mul_assoc]
    rw [e, Nat.add_mul_div_left _ _ (Nat.pow_pos (by decide))]
    unfold dg
    rw [Nat.add_mul_mod_self_left]
theorem showL_mod (v j : Nat) : showL (v % 10 ^ j) j = showL v j := by
  have := showL_add (v % 10 ^ j) (v / 10 ^ j) j j (Nat.le_refl _)
  rw [Nat.mod_add_div] at this
  exact this.symm

/-- The sum of the low places, from place q on; one place more. -/
def lowS (c u : List UInt8) (q : Nat) : Nat := vN (c.drop q) + vN (u.drop q)
theorem lowS_top (c u : List UInt8) (q : Nat) (h1 : c.length ≤ q) (h2 : u.length ≤ q) : lowS c u q = 0 := by
  unfold lowS; rw [List.drop_of_length_le h1, List.drop_of_length_le h2]; rfl
theorem lowS_step {c u : List UInt8} {q j : Nat} (hc : q < c.length) (hu : u.length = c.length) (hj : q + 1 + j = c.length) (hu2 : q < u.length) :
    lowS c u q = lowS c u (q + 1) + 10 ^ j * (c[q].toNat - 48 + (u[q].toNat - 48)) := by
  unfold lowS
  rw [vN_drop c q hc, vN_drop u q hu2, hu, show c.length - (q + 1) = j by omega, Nat.mul_add, Nat.mul_comm (10 ^ j), Nat.mul_comm (10 ^ j)]
  omega
theorem low_digit {c u : List UInt8} {q j : Nat} (hc : q < c.length) (hu : u.length = c.length) (hj : q + 1 + j = c.length) (hu2 : q < u.length) :
    lowS c u q / 10 ^ j = c[q].toNat - 48 + (u[q].toNat - 48) + lowS c u (q + 1) / 10 ^ j ∧ showL (lowS c u q) (j + 1) = dg (lowS c u q / 10 ^ j) :: showL (lowS c u (q + 1)) j := by
  refine ⟨?_, ?_⟩
  · rw [lowS_step hc hu hj hu2, Nat.add_mul_div_left _ _ (Nat.pow_pos (by decide)), Nat.add_comm]
  · rw [showL]
    congr 1
    rw [lowS_step hc hu hj hu2]
    exact showL_add _ _ _ _ (Nat.le_refl _)

/-- Marks. -/
def mk1 (c : UInt8) : Bool := decide (c.toNat = 48 ∨ c.toNat = 49)
def marksB (c m : List UInt8) : Bool := colB c && decide (m.length = c.length) && m.all mk1
theorem marksB_iff {c m : List UInt8} : marksB c m = true ↔ colB c = true ∧ m.length = c.length ∧ ∀ x ∈ m, x.toNat = 48 ∨ x.toNat = 49 := by
  simp [marksB, mk1, and_assoc]
theorem marksB_bad {c m : List UInt8} {k : Nat} {x : UInt8} (hk : m[k]? = some x) (h : ¬ (x.toNat = 48 ∨ x.toNat = 49)) : marksB c m = false := by
  rw [Bool.eq_false_iff]; intro hb
  exact h ((marksB_iff.1 hb).2.2 x (List.mem_of_getElem? hk))
theorem marks_dig {m : List UInt8} (h : ∀ x ∈ m, x.toNat = 48 ∨ x.toNat = 49) : ∀ x ∈ m, 48 ≤ x.toNat ∧ x.toNat ≤ 57 := fun x hx => by
  have := h x hx; omega

/-- Each mark moved to the next higher wheel. -/
def upL (m : List UInt8) : List UInt8 := m.drop 1 ++ [48]
theorem upL_length {m : List UInt8} (h : 1 ≤ m.length) : (upL m).length = m.length := by
  simp [upL]; omega
theorem upL_mark {m : List UInt8} (h : ∀ x ∈ m, x.toNat = 48 ∨ x.toNat = 49) : ∀ x ∈ upL m, x.toNat = 48 ∨ x.toNat = 49 := by
  intro x hx
  rcases List.mem_append.1 hx with hx | hx
  · exact h x (List.mem_of_mem_drop hx)
  · rw [List.mem_singleton.1 hx]; exact .inl rfl
theorem upL_at {m : List UInt8} {q : Nat} (h : q + 1 < m.length) (h2 : q < (upL m).length) : (upL m)[q] = m[q + 1] := by
  have e : (upL m)[q]? = some m[q + 1] := by
    unfold upL
    rw [List.getElem?_append_left (by rw [List.length_drop]; omega), List.getElem?_drop, Nat.add_comm 1 q, List.getElem?_eq_getElem h]
  rw [List.getElem?_eq_getElem h2] at e
  exact Option.some.inj e
theorem upL_last {m : List UInt8} {q : Nat} (h : q + 1 = m.length) (h2 : q < (upL m).length) : (upL m)[q] = 48 := by
  have e : (upL m)[q]? = some 48 := by
    unfold upL
    rw [List.getElem?_append_right (by rw [List.length_drop]; omega), List.length_drop, show q - (m.length - 1) = 0 by omega]
    rfl
  rw [List.getElem?_eq_getElem h2] at e
  exact Option.some.inj e
theorem upL_col {c m : List UInt8} (h : marksB c m = true) : colB (upL m) = true ∧ (upL m).length = c.length ∧ alikeB c (upL m) = true := by
  obtain ⟨h1, h2, h3⟩ := marksB_iff.1 h
  have hl := colB_len h1
  have e : (upL m).length = c.length := by rw [upL_length (by omega), h2]
  have hc : colB (upL m) = true := colB_mk (by omega) (by omega) (marks_dig (upL_mark h3))
  exact ⟨hc, e, alikeB_iff.2 ⟨h1, hc, e.symm⟩⟩
theorem marks_col {c m : List UInt8} (h : marksB c m = true) : colB m = true ∧ alikeB c m = true := by
  obtain ⟨h1, h2, h3⟩ := marksB_iff.1 h
  have hl := colB_len h1
  have hc : colB m = true := colB_mk (by omega) (by omega) (marks_dig h3)
  exact ⟨hc, alikeB_iff.2 ⟨h1, hc, h2.symm⟩⟩

/-- What CarryAhead returns. -/
def aheadL (c m : List UInt8) : List UInt8 := if marksB c m = true then sumL c (upL m) else []
theorem aheadL_no {c m : List UInt8} (h : marksB c m = false) : aheadL c m = [] := by unfold aheadL; rw [h]; rfl
theorem aheadL_yes {c m : List UInt8} (h : marksB c m = true) : aheadL c m = sumL c (upL m) := if_pos h
/-- The sum's digits, without the remainder. -/
theorem sumL_show {a b : List UInt8} (h : alikeB a b = true) : sumL a b = showL (vN a + vN b) a.length := by
  obtain ⟨h1, h2, h3⟩ := alikeB_iff.1 h
  unfold sumL
  rw [if_pos h, val_vN a (colB_dig h1), val_vN b (colB_dig h2)]
  have e : (((vN a : Int) + (vN b : Int)) % p10 a.length).toNat = (vN a + vN b) % 10 ^ a.length := by
    unfold p10
    rw [show ((vN a : Int) + (vN b : Int)) = ((vN a + vN b : Nat) : Int) by omega, show (10 : Int) ^ a.length = ((10 ^ a.length : Nat) : Int) by rw [Int.natCast_pow]; rfl, ← Int.natCast_emod, Int.toNat_natCast]
  rw [e, showL_mod]
end Go.Proofs.YthhkpghecekoeaaDoor
