/- The walks of both texts of ScalePoly and ValuesOf. -/
import Derived.Test.YtbcmpgagceomgaaEval
namespace Go.Proofs.Ytbcmpgagceomgaa
open Go.RowKit

/-- A list of the call's own, made as a block and filled from its front, is given back. -/
theorem own_part {w wr : World} {xs : List Int} {n : Nat} (hb : Blk wr w.heap.size 3 (cI xs)) (hn : n = xs.length) (hx : n ≤ 10000000) : Own wr w.heap.size wr.heap.size (.slice (some ⟨w.heap.size, 0, none⟩) n n) xs := by
  subst hn
  exact Own.block hb rfl (Nat.le_refl _) hb.lt (by unfold maxLen; omega)
theorem fill_int {W : World} {g : Nat} {t : TypeId} {xs : List Int} {k : Nat} {x : Int} (h : Blk W g t (cI (part xs k))) (hk : k < xs.length) (hx : xs[k] = x) :
    Blk (W.setCell ⟨g, k, none⟩ (.int .i64 x)) g t (cI (part xs (k + 1))) := by
  have h2 := h.put k (.int .i64 xs[k])
  rw [cI_set, part_step _ _ hk, hx] at h2
  exact h2
theorem part_some {W : World} {g : Nat} {t : TypeId} {xs : List Int} {k : Nat} (h : Blk W g t (cI (part xs k))) (hk : k < xs.length) : ∃ u, W.cell? ⟨g, k, none⟩ = some u :=
  ⟨_, cI_cell h (by rw [part_length _ _ (by omega)]; exact hk)⟩

/-- The numbers of a list, each times k. -/
def scaleL (xs : List Int) (k : Int) : List Int := xs.map fun x => x * k
theorem scaleL_length (xs : List Int) (k : Int) : (scaleL xs k).length = xs.length := by simp [scaleL]
theorem scaleL_at {xs : List Int} {k : Int} {j : Nat} (h : j < (scaleL xs k).length) (h2 : j < xs.length) : (scaleL xs k)[j] = xs[j] * k := by
  simp [scaleL]
def scB (xs : List Int) (k : Int) : Bool := (polyB xs && inB k (-100000) 100000) && polyB (scaleL xs k)
def scP (xs : List Int) (k : Int) : List Int := if scB xs k = true then scaleL xs k else []
theorem sc_no {xs : List Int} {k : Int} (h : (polyB xs && inB k (-100000) 100000) = false) : scB xs k = false ∧ scP xs k = [] := by
  have : scB xs k = false := by unfold scB; rw [h]; rfl
  exact ⟨this, by unfold scP; rw [this]; rfl⟩
theorem sc_yes {xs : List Int} {k : Int} (h1 : polyB xs = true) (h2 : inB k (-100000) 100000 = true) : scB xs k = polyB (scaleL xs k) ∧ scP xs k = keepP (scaleL xs k) := by
  have : scB xs k = polyB (scaleL xs k) := by unfold scB; rw [h1, h2]; rfl
  exact ⟨this, by unfold scP keepP; rw [this]⟩
theorem scP_length (xs : List Int) (k : Int) : (scP xs k).length ≤ 7 := by
  unfold scP
  split
  · rename_i h
    unfold scB at h
    exact (poly_len (Bool.and_eq_true_iff.1 h).2).2
  · decide