/- PowersOf in plain Lean: the rows of numbers that both texts pass through, step by step. -/
import Derived.Test.YthjadabaojcmoaaBase
namespace Go.Proofs.Ythjadabaojcmoaa

/-- The number in place i, zero past the end. -/
def at0 (L : List Int) (i : Nat) : Int := L.getD i 0
theorem at0_get {L : List Int} {i : Nat} (h : i < L.length) : L[i] = at0 L i := by
  unfold at0
  rw [List.getD_eq_getElem?_getD, List.getElem?_eq_getElem h]
  rfl
/-- All numbers are within b. -/
def bd (L : List Int) (b : Int) : Prop := ∀ x ∈ L, -b ≤ x ∧ x ≤ b
theorem at0_bd {L : List Int} {b : Int} (h : bd L b) (hb : 0 ≤ b) (i : Nat) : -b ≤ at0 L i ∧ at0 L i ≤ b := by
  unfold at0
  rw [List.getD_eq_getElem?_getD]
  cases e : L[i]? with
  | none => simp; omega
  | some x => exact h x (List.mem_of_getElem? e)
theorem bd_set {L : List Int} {b : Int} (h : bd L b) {i : Nat} {x : Int} (h1 : -b ≤ x) (h2 : x ≤ b) : bd (L.set i x) b := by
  intro y hy
  rcases List.mem_or_eq_of_mem_set hy with h3 | h3
  · exact h y h3
  · subst h3; exact ⟨h1, h2⟩
theorem bd_mono {L : List Int} {b b' : Int} (h : bd L b) (hb : b ≤ b') : bd L b' := fun x hx => by
  have := h x hx; omega

/-- After i turns of the loop that multiplies with the argument minus k. -/
def tmS (c : List Int) (k : Int) : Nat → List Int
  | 0 => List.replicate (c.length + 1) 0
  | i + 1 => ((tmS c k i).set (i + 1) (at0 (tmS c k i) (i + 1) + at0 c i)).set i (at0 (tmS c k i) i - k * at0 c i)
theorem tmS_length (c : List Int) (k : Int) (i : Nat) : (tmS c k i).length = c.length + 1 := by
  induction i with
  | zero => simp [tmS]
  | succ i ih => rw [tmS, List.length_set, List.length_set, ih]
/-- After i turns of the loop that divides. -/
def dvS (T : List Int) (m : Int) : Nat → List Int
  | 0 => T
  | i + 1 => (dvS T m i).set i ((at0 (dvS T m i) i).tdiv m)
theorem dvS_length (T : List Int) (m : Int) (i : Nat) : (dvS T m i).length = T.length := by
  induction i with
  | zero => rfl
  | succ i ih => rw [dvS, List.length_set, ih]
/-- The program's products and the reference's coefficients. -/
def rowS : Nat → List Int
  | 0 => [1]
  | k + 1 => tmS (rowS k) k (k + 1)
def rowC : Nat → List Int
  | 0 => [720]
  | k + 1 => dvS (tmS (rowC k) k (k + 1)) ((k : Int) + 1) (k + 2)
def fct : Nat → Int
  | 0 => 1
  | k + 1 => fct k * ((k : Int) + 1)
theorem rowS_length (k : Nat) : (rowS k).length = k + 1 := by
  induction k with
  | zero => rfl
  | succ k ih => rw [rowS, tmS_length, ih]
theorem rowC_length (k : Nat) : (rowC k).length = k + 1 := by
  induction k with
  | zero => rfl
  | succ k ih => rw [rowC, dvS_length, tmS_length, ih]
def okL (L : List Int) : Bool := L.all fun x => decide (-1000000 ≤ x) && decide (x ≤ 1000000)
theorem okL_bd {L : List Int} (h : okL L = true) : bd L 1000000 := by
  intro x hx
  have := List.all_eq_true.1 h x hx
  simpa using this
theorem okAll : ((List.range 7).all fun k => okL (rowC k) && okL (rowS k) && decide (1 ≤ fct k) && decide (fct k ≤ 720) && (List.range 9).all fun i => okL (tmS (rowC k) k i) && okL (tmS (rowS k) k i) && okL (dvS (tmS (rowC k) k (k + 1)) ((k : Int) + 1) i) && decide (at0 (rowC k) i = Int.tdiv 720 (fct k) * at0 (rowS k) i)) = true := by decide +kernel
theorem okAt {k : Nat} (hk : k < 7) : bd (rowC k) 1000000 ∧ bd (rowS k) 1000000 ∧ 1 ≤ fct k ∧ fct k ≤ 720 ∧ ∀ i, i < 9 → bd (tmS (rowC k) k i) 1000000 ∧ bd (tmS (rowS k) k i) 1000000 ∧ bd (dvS (tmS (rowC k) k (k + 1)) ((k : Int) + 1) i) 1000000 ∧ at0 (rowC k) i = Int.tdiv 720 (fct k) * at0 (rowS k) i := by
  have h := List.all_eq_true.1 okAll k (List.mem_range.2 hk)
  simp only [Bool.and_eq_true, decide_eq_true_eq] at h
  obtain ⟨⟨⟨⟨h1, h2⟩, h3⟩, h4⟩, h5⟩ := h
  refine ⟨okL_bd h1, okL_bd h2, h3, h4, fun i hi => ?_⟩
  have h := List.all_eq_true.1 h5 i (List.mem_range.2 hi)
  simp only [Bool.and_eq_true, decide_eq_true_eq] at h
  obtain ⟨⟨⟨h6, h7⟩, h8⟩, h9⟩ := h
  exact ⟨okL_bd h6, okL_bd h7, okL_bd h8, h9⟩

/-- After i turns of the loop that adds d times c to L. -/
def inn (c : List Int) (d : Int) (L : List Int) : Nat → List Int
  | 0 => L
  | i + 1 => (inn c d L i).set i (at0 (inn c d L i) i + d * at0 c i)
theorem inn_length (c : List Int) (d : Int) (L : List Int) (i : Nat) : (inn c d L i).length = L.length := by
  induction i with
  | zero => rfl
  | succ i ih => rw [inn, List.length_set, ih]
def outS (p : List Int) : Nat → List Int
  | 0 => List.replicate p.length 0
  | k + 1 => inn (rowC k) (at0 p k) (outS p k) (k + 1)
theorem outS_length (p : List Int) (k : Nat) : (outS p k).length = p.length := by
  induction k with
  | zero => simp [outS]
  | succ k ih => rw [outS, inn_length, ih]
theorem prod_bd {d x : Int} (d1 : -100000 ≤ d) (d2 : d ≤ 100000) (x1 : -1000000 ≤ x) (x2 : x ≤ 1000000) : -100000000000 ≤ d * x ∧ d * x ≤ 100000000000 := by
  have hn : (d * x).natAbs ≤ 100000 * 1000000 := by
    rw [Int.natAbs_mul]
    exact Nat.mul_le_mul (by omega) (by omega)
  omega
theorem inn_bd {c L : List Int} {d B : Int} (hB : 0 ≤ B) (hL : bd L B) (hc : bd c 1000000) (d1 : -100000 ≤ d) (d2 : d ≤ 100000) (i : Nat) : bd (inn c d L i) (B + i * 100000000000) := by
  induction i with
  | zero => exact bd_mono hL (by omega)
  | succ i ih =>
    have ha := at0_bd ih (by omega) i
    have hx := at0_bd hc (by decide) i
    have hp := prod_bd d1 d2 hx.1 hx.2
    rw [inn]
    exact bd_set (bd_mono ih (by omega)) (by omega) (by omega)
theorem outS_bd {p : List Int} (hp : bd p 100000) {k : Nat} (hk : k ≤ 7) : bd (outS p k) (k * 800000000000) := by
  induction k with
  | zero =>
    intro x hx
    rw [outS] at hx
    have := (List.mem_replicate.1 hx).2
    omega
  | succ k ih =>
    have hd := at0_bd hp (by decide) k
    rw [outS]
    exact bd_mono (inn_bd (by omega) (ih (by omega)) (okAt (by omega)).1 hd.1 hd.2 (k + 1)) (by omega)
theorem inn_at {p : List Int} (hp : bd p 100000) {k : Nat} (hk : k < 7) (i : Nat) (hi : i ≤ 8) (j : Nat) : -7000000000000 ≤ at0 (inn (rowC k) (at0 p k) (outS p k) i) j ∧ at0 (inn (rowC k) (at0 p k) (outS p k) i) j ≤ 7000000000000 := by
  have hd := at0_bd hp (by decide) k
  exact at0_bd (bd_mono (inn_bd (by omega) (outS_bd hp (by omega)) (okAt hk).1 hd.1 hd.2 i) (by omega)) (by decide) j

/-- What PowersOf returns of a polynomial. -/
def powW (p : List Int) : List Int := outS p p.length
theorem powW_length (p : List Int) : (powW p).length = p.length := outS_length p _
end Go.Proofs.Ythjadabaojcmoaa
