/- The walks of both texts of CarryAhead, and of the tests on marks. -/
import Derived.Test.YtblkhjbakkiphaaColD
import Derived.Test.YtblkhjbakkiphaaAheadPlain
import Derived.Lib.IndexBytes
namespace Go.Proofs.Ytblkhjbakkiphaa
open Go.RowKit

theorem ret_str {a b : ByteArray} (h : a = b) : Ending.returned (.string a) = .returned (.string b) := by rw [h]
theorem up_str (s : ByteArray) : s.extract 1 s.size ++ ⟨#[48]⟩ = str (upL (bl s)) := by
  apply bl_inj
  rw [bl_str]
  have e := Lib.extract_to_end s 1
  unfold bl upL
  rw [ByteArray.data_append, Array.toList_append, e]

/-- A string at most as long as a column is no longer than any string may be. -/
theorem col_max {s : ByteArray} (h : colB (bl s) = true) : s.size ≤ maxLen := by
  have := (col_size h).2; unfold maxLen; omega
theorem str_max {l : List UInt8} (h : l.length ≤ 1000000) : (str l).size ≤ maxLen := by
  rw [size_str]; unfold maxLen; omega

/-- The state of CarryAhead's loop: q + 1 places are to come, j are done; the carry. -/
def Adding (w : World) (c u : List UInt8) (cy i : Value) (wr : World) : Prop :=
  (∃ q j x : Nat, q + 1 + j = c.length ∧ i = .int .i64 (q : Int) ∧ cy = .int .i64 (x : Int) ∧ x ≤ 1 ∧ x = lowS c u (q + 1) / 10 ^ j ∧ Blk wr w.heap.size 5 (cB (List.replicate (q + 1) 0 ++ showL (lowS c u (q + 1)) j)) ∧ Below w.heap.size w wr) ∨
  (∃ x : Nat, i = .int .i64 (-1) ∧ cy = .int .i64 (x : Int) ∧ Blk wr w.heap.size 5 (cB (showL (lowS c u 0) c.length)) ∧ Below w.heap.size w wr)
theorem adding_start (w : World) (c u : List UInt8) (m : Nat) (h : c.length = m + 1) (hu : u.length = c.length) :
    Adding w c u (.int .i64 0) (.int .i64 (m : Int)) (w.alloc (.cells (cB (List.replicate (m + 1) 0)) 5)) :=
  .inl ⟨m, 0, 0, by omega, rfl, rfl, by decide, by rw [lowS_top _ _ _ (by omega) (by omega)], by simpa [showL] using Blk.new w _ _, (Below.refl _ _).alloc (Nat.le_refl _) _⟩
theorem adding_step {w wr : World} {c u : List UInt8} {q j x cq uq : Nat} {z : Int} (hq : q + 1 + j = c.length) (hu : u.length = c.length) (hc : q < c.length) (hu2 : q < u.length)
    (hx : x = lowS c u (q + 1) / 10 ^ j) (hcq : c[q].toNat = cq) (huq : u[q].toNat = uq) (hs : z = ((cq - 48 + (uq - 48) + x : Nat) : Int)) (hs1 : z ≤ 19)
    (hb : Blk wr w.heap.size 5 (cB (List.replicate (q + 1) 0 ++ showL (lowS c u (q + 1)) j))) (hw : Below w.heap.size w wr) :
    Adding w c u (.int .i64 (z / 10)) (.int .i64 ((q : Int) - 1)) (wr.setCell ⟨w.heap.size, q, none⟩ (.int .u8 (48 + z % 10))) := by
  have d := low_digit hc hu hq hu2
  subst hcq huq
  obtain ⟨s, es⟩ : ∃ s, s = c[q].toNat - 48 + (u[q].toNat - 48) + x := ⟨_, rfl⟩
  rw [← es] at hs
  rw [← hx, ← es] at d
  subst hs
  have h2 := hb.put q (.int .u8 ((dg s).toNat : Int))
  rw [cB_set, set_back, ← d.1, ← d.2] at h2
  have hw2 := hw.setCell (p := ⟨w.heap.size, q, none⟩) (Nat.le_refl _) (.int .u8 (48 + (s : Int) % 10))
  have e : (48 + (s : Int) % 10) = ((dg s).toNat : Int) := by rw [dg_nat]; omega
  rw [d.1, ← e] at h2
  cases q with
  | zero =>
    refine .inr ⟨s / 10, rfl, by congr 1, ?_, hw2⟩
    rw [show c.length = j + 1 by omega]
    exact h2
  | succ q =>
    refine .inl ⟨q, j + 1, s / 10, by omega, by congr 1; omega, by congr 1, by omega, ?_, h2, hw2⟩
    rw [← d.1, div_step]