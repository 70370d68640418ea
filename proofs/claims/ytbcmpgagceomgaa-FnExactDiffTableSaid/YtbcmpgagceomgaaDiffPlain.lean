/- Differences of neighbors, taken again and again. Plain Lean: no program. -/
namespace Go.Proofs.Ytbcmpgagceomgaa

/-- The differences of neighboring numbers. -/
def nextD (xs : List Int) : List Int := List.zipWith (fun a b => b - a) xs (xs.drop 1)
theorem nextD_length (xs : List Int) : (nextD xs).length = xs.length - 1 := by
  simp [nextD]
theorem nextD_at {xs : List Int} {k : Nat} (h : k < (nextD xs).length) (h1 : k + 1 < xs.length) : (nextD xs)[k] = xs[k + 1] - xs[k] := by
  have e : (nextD xs)[k]? = some (xs[k + 1] - xs[k]) := by
    unfold nextD
    rw [List.getElem?_zipWith, List.getElem?_drop, List.getElem?_eq_getElem (by omega), List.getElem?_eq_getElem (by omega : 1 + k < xs.length)]
    show some (xs[1 + k] - xs[k]) = _
    congr 2
    congr 1
    omega
  rw [List.getElem?_eq_getElem h] at e
  exact Option.some.inj e
theorem nextD_bd {xs : List Int} {M : Int} (hb : ∀ x ∈ xs, -M ≤ x ∧ x ≤ M) : ∀ x ∈ nextD xs, -(2 * M) ≤ x ∧ x ≤ 2 * M := by
  intro x hx
  obtain ⟨k, hk, rfl⟩ := List.getElem_of_mem hx
  have hl := nextD_length xs
  rw [nextD_at hk (by omega)]
  have h1 := hb xs[k + 1] (List.getElem_mem (by omega))
  have h2 := hb xs[k] (List.getElem_mem (by omega))
  omega
theorem nextD_nil : nextD [] = [] := rfl
theorem nextD_short {xs : List Int} (h : xs.length < 2) : nextD xs = [] := List.eq_nil_of_length_eq_zero (by rw [nextD_length]; omega)

/-- The first numbers of a list, of its differences, and so on. -/
def firstsF : Nat → List Int → List Int
  | 0, _ => []
  | _ + 1, [] => []
  | f + 1, x :: r => x :: firstsF f (nextD (x :: r))
def firsts (xs : List Int) : List Int := firstsF xs.length xs
theorem firsts_nil : firsts [] = [] := rfl
theorem firsts_cons {xs : List Int} (h : 0 < xs.length) : firsts xs = xs[0] :: firsts (nextD xs) := by
  cases xs with
  | nil => simp at h
  | cons x r =>
    unfold firsts
    rw [nextD_length]
    rfl
theorem firsts_length (xs : List Int) : (firsts xs).length = xs.length := by
  generalize hn : xs.length = n
  induction n generalizing xs with
  | zero => rw [List.eq_nil_of_length_eq_zero hn]; rfl
  | succ n ih =>
    rw [firsts_cons (by omega), List.length_cons, ih (nextD xs) (by rw [nextD_length]; omega)]
end Go.Proofs.Ytbcmpgagceomgaa
