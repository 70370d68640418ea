/- The walks of the helpers of the exact laws: copying a list, comparing two, marking one, asking for the marks. -/
import Derived.Test.YthhkpghecekoeaaDoorRow
import Derived.Test.YthhkpghecekoeaaDoorMem
namespace Go.Proofs.YthhkpghecekoeaaDoor
open Go.RowKit

theorem infoI : (Tryd.prog.info? 3).map (fun i => (i.zero, i.size, i.bytes)) = some (some (.int .i64 0), 1, 8) := by kernel_rfl

/-- Cells that hold integers. -/
def cI (xs : List Int) : Array Value := (ints xs).toArray
theorem cI_at {xs : List Int} {i : Nat} (h : i < xs.length) : (cI xs)[i]? = some (.int .i64 xs[i]) := by
  simp [cI, ints, List.getElem?_eq_getElem h]
theorem cI_set (xs : List Int) (i : Nat) (x : Int) : (cI xs).setIfInBounds i (.int .i64 x) = cI (xs.set i x) := by
  unfold cI
  apply Array.toList_inj.1
  simp [ints, List.map_set]
theorem cI_made (n : Nat) : madeCells #[.int .i64 0] n = cI (List.replicate n 0) := by
  apply Array.toList_inj.1
  rw [toList_madeCells_one]
  simp [cI, ints]
theorem cI_cell {w : World} {g : Nat} {t : TypeId} {xs : List Int} (h : Blk w g t (cI xs)) {i : Nat} (hi : i < xs.length) : w.cell? ⟨g, i, none⟩ = some (.int .i64 xs[i]) := by
  rw [h.cell, cI_at hi]

/-- make([]int, n). -/
theorem make_ints (n : Nat) (hn : n ≤ 1000000000) (z : Int) (hz : z = n) (W : World) :
    (Instr.makeSlice 59 (.int .i64 z) (.int .i64 z)).run Tryd.prog W = .ok (.slice (some ⟨W.heap.size, 0, none⟩) n n) (W.alloc (.cells (cI (List.replicate n 0)) 3)) := by
  subst hz
  obtain ⟨i0, hi, hz0, hz1, hz2⟩ := info_parts infoI
  have hr := run_make (P := Tryd.prog) W 59 3 i0 (.int .i64 0) Tryd.underlying59 hi hz0 .i64 .i64 n n (by omega) (Int.le_refl _) (by rw [hz2]; omega) (by omega)
  simp only [Int.toNat_natCast, hz1, Nat.mul_one] at hr
  rw [hr]
  show Result.ok _ (W.alloc (.cells (madeCells #[.int .i64 0] n) _)) = _
  rw [cI_made]

/-- A list that is filled from its front. -/
def part (xs : List Int) (k : Nat) : List Int := xs.take k ++ List.replicate (xs.length - k) 0
theorem part_zero (xs : List Int) : part xs 0 = List.replicate xs.length 0 := by simp [part]
theorem part_all (xs : List Int) : part xs xs.length = xs := by simp [part]
theorem part_length (xs : List Int) (k : Nat) (h : k ≤ xs.length) : (part xs k).length = xs.length := by
  simp [part, List.length_take]; omega
theorem part_step (xs : List Int) (k : Nat) (h : k < xs.length) : (part xs k).set k xs[k] = part xs (k + 1) := by
  unfold part
  obtain ⟨m, hm⟩ : ∃ m, xs.length - k = m + 1 := ⟨xs.length - k - 1, by omega⟩
  rw [hm, show xs.length - (k + 1) = m by omega, List.set_append_right _ _ (by rw [List.length_take]; omega), List.length_take, Nat.min_eq_left (by omega), Nat.sub_self, List.replicate_succ, List.set_cons_zero, List.take_succ_eq_append_getElem h, List.append_assoc]
  rfl

/-- Are two lists the same? Closed to the walk. -/
def eqB (xs ys : List Int) : Bool := decide (xs = ys)
theorem eqB_refl (xs : List Int) : eqB xs xs = true := by simp [eqB]
theorem eqB_no {xs ys : List Int} (h : xs ≠ ys) : eqB xs ys = false := decide_eq_false h

/-- The marks k, k + 1 and so on, n of them. -/
def marks (k : Int) : Nat → List Int
  | 0 => []
  | n + 1 => k :: marks (k + 1) n
theorem marks_length (k : Int) (n : Nat) : (marks k n).length = n := by
  induction n generalizing k with
  | zero => rfl
  | succ n ih => simp [marks, ih]
theorem marks_at (k : Int) (n i : Nat) (h : i < (marks k n).length) : (marks k n)[i] = k + i := by
  induction n generalizing k i with
  | zero => simp [marks] at h
  | succ n ih =>
    cases i with
    | zero => simp [marks]
    | succ i =>
      have := ih (k + 1) i (by simp [marks_length] at h ⊢; omega)
      simp only [marks, List.getElem_cons_succ, this]
      omega
end Go.Proofs.YthhkpghecekoeaaDoor
