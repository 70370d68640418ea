/- The walks of the helpers of the exact laws: copying a list, comparing two, marking one, asking for the marks. -/
import Derived.Test.YtbcmpgagceomgaaRow
import Derived.Test.YtbcmpgagceomgaaMem
namespace Go.Proofs.Ytbcmpgagceomgaa
open Go.RowKit

theorem infoI : (Try.prog.info? 3).map (fun i => (i.zero, i.size, i.bytes)) = some (some (.int .i64 0), 1, 8) := by kernel_rfl

/-- Cells that hold integers. -/
def cI (xs : List Int) : Array Value := (ints xs).toArray
theorem cI_at {xs : List Int} {i : Nat} (h : i < xs.length) : (cI xs)[i]? = some (.int .i64 xs[i]) := by
  simp [cI, ints, List.getElem?_eq_getElem h]
theorem cI_set (xs : List Int) (i : Nat) (x : Int) : (cI xs).setIfInBounds i (.int .i64 x) = cI (xs.set i x) := by
  unfold cI
  apply Array.toList_inj.1
  simp [ints, List.map_set]
theorem cI_made (n : Nat) : madeCells #[.int .i64 0] n = cI (List.replicate n 0) := by
  apply Array.toList_inj.1
  rw [toList_madeCells_one]
  simp [cI, ints]
theorem cI_cell {w : World} {g : Nat} {t : TypeId} {xs : List Int} (h : Blk w g t (cI xs)) {i : Nat} (hi : i < xs.length) : w.cell? ⟨g, i, none⟩ = some (.int .i64 xs[i]) := by
  rw [h.cell, cI_at hi]

/-- make([]int, n). -/
theorem make_ints (n : Nat) (hn : n ≤ 1000000000) (z : Int) (hz : z = n) (W : World) :
    (Instr.makeSlice 22 (.int .i64 z) (.int .i64 z)).run Try.prog W = .ok (.slice (some ⟨W.heap.size, 0, none⟩) n n) (W.alloc (.cells (cI (List.replicate n 0)) 3)) := by
  subst hz
  obtain ⟨i0, hi, hz0, hz1, hz2⟩ := info_parts infoI
  have hr := run_make (P := Try.prog) W 22 3 i0 (.int .i64 0) Try.underlying22 hi hz0 .i64 .i64 n n (by omega) (Int.le_refl _) (by rw [hz2]; omega) (by omega)
  simp only [Int.toNat_natCast, hz1, Nat.mul_one] at hr
  rw [hr]
  show Result.ok _ (W.alloc (.cells (madeCells #[.int .i64 0] n) _)) = _
  rw [cI_made]

/-- A list that is filled from its front. -/
def part (xs : List Int) (k : Nat) : List Int := xs.take k ++ List.replicate (xs.length - k) 0
theorem part_zero (xs : List Int) : part xs 0 = List.replicate xs.length 0 := by simp [part]
theorem part_all (xs : List Int) : part xs xs.length = xs := by simp [part]
theorem part_length (xs : List Int) (k : Nat) (h : k ≤ xs.length) : (part xs k).length = xs.length := by
  simp [part, List.length_take]; omega
theorem part_step (xs : List Int) (k : Nat) (h : k < xs.length) : (part xs k).set k xs[k] = part xs (k + 1) := by
  unfold part
  obtain ⟨m, hm⟩ : ∃ m, xs.length - k = m + 1 := ⟨xs.length - k - 1, by omega⟩
  rw [hm, show xs.length - (k + 1) = m by omega, List.set_append_right _ _ (by rw [List.length_take]; omega), List.length_take, Nat.min_eq_left (by omega), Nat.sub_self, List.replicate_succ, List.set_cons_zero, List.take_succ_eq_append_getElem h, List.append_assoc]
  rfl

set_option maxHeartbeats 1000000 in
theorem toIntS_any (A : Option Addr) (cap : Nat) (xs : List Int) (w : World) (hr : Row w w.heap.size A xs) (hx : xs.length ≤ 1048576) :
    Calls Try.prog 10 #[.slice A xs.length cap] w (Gives w xs) := by
  have hmk := make_ints xs.length (by omega) (xs.length : Int) rfl
  have R := Lib.hid hr; clear hr
  go_enter Try.func10, Try.ntmps10
  go_wp2
  go_loopw [4] (fun i wr => ∃ k : Nat, k ≤ xs.length ∧ i = .int .i64 k ∧ Blk wr w.heap.size 3 (cI (part xs k)) ∧ Below w.heap.size w wr) (fun i _ => xs.length - (intOf i).toNat)
  case atStart => exact ⟨0, Nat.zero_le _, rfl, by rw [part_zero]; exact Blk.new _ _ _, (Below.refl _ _).alloc (Nat.le_refl _) _⟩
  case round =>
    obtain ⟨k, hk, rfl, hb, hw⟩ := hrel
    by_cases hlt : k < xs.length
    · obtain ⟨b, o, rfl, hbw, hc⟩ := (R.out.keep hw) k hlt
      have hold := cI_cell hb (i := k) (by rw [part_length _ _ hk]; exact hlt)
      have hfree := hb.free k
      have B := Lib.hid hb; have V := Lib.hid hw; clear hb hw
      go_wp2
      go_roundw
      case rel => exact ⟨k + 1, by omega, by go_num, by have h2 := B.out.put k (.int .i64 xs[k]); rw [cI_set, part_step _ _ hlt] at h2; exact h2, V.out.setCell (Nat.le_refl _) _⟩
      case measure => simp [intOf]; omega
    · obtain rfl : k = xs.length := by omega
      have hs := hb.lt
      have B := Lib.hid hb; have V := Lib.hid hw; clear hb hw
      go_wp2
      go_ret
      refine ⟨_, _, rfl, ?_, V.out⟩
      have h2 := B.out
      rw [part_all] at h2
      exact Own.block h2 rfl (Nat.le_refl _) hs (by unfold maxLen; omega)

/-- Are two lists the same? Closed to the walk. -/
def eqB (xs ys : List Int) : Bool := decide (xs = ys)
theorem eqB_refl (xs : List Int) : eqB xs xs = true := by simp [eqB]
theorem eqB_no {xs ys : List Int} (h : xs ≠ ys) : eqB xs ys = false := decide_eq_false h

set_option maxHeartbeats 1000000 in
theorem eqIntS_any (A A' : Option Addr) (cap cap' : Nat) (xs ys : List Int) (w : World) (B B' : Nat) (hB : B ≤ w.heap.size) (hB' : B' ≤ w.heap.size)
    (hr : Row w B A xs) (hr' : Row w B' A' ys) (hx : xs.length ≤ 1000000000) (hy : ys.length ≤ 1000000000) :
    Calls Try.prog 12 #[.slice A xs.length cap, .slice A' ys.length cap'] w fun e w' => e = .returned (.bool (eqB xs ys)) ∧ Calm w w' := by
  have R := Lib.hid hr; have R' := Lib.hid hr'; clear hr hr'
  by_cases hlen : xs.length = ys.length
  · have hlb : ((xs.length : Int) != (ys.length : Int)) = false := by simp [hlen]
    have HL := Lib.hid hlen; clear hlen
    go_enter Try.func12, Try.ntmps12
    go_wp2
    go_loopw [5] (fun i wr => ∃ k : Nat, k ≤ xs.length ∧ i = .int .i64 k ∧ Hid (xs.take k = ys.take k) ∧ Calm w wr) (fun i _ => xs.length - (intOf i).toNat)
    case atStart => exact ⟨0, Nat.zero_le _, rfl, (by simp : xs.take 0 = ys.take 0), Calm.refl _⟩
    case round =>
      obtain ⟨k, hk, rfl, HT, hw⟩ := hrel
      by_cases hlt : k < xs.length
      · have hlt' : k < ys.length := by have := HL.out; omega
        obtain ⟨b, o, rfl, hbw, hc⟩ := (R.out.keep (hw _ hB)) k hlt
        obtain ⟨b', o', rfl, hbw', hc'⟩ := (R'.out.keep (hw _ hB')) k hlt'
        have V := Lib.hid hw; clear hw
        by_cases hq : xs[k] = ys[k]
        · have hn : (xs[k] != ys[k]) = false := by simp [hq]
          have HT2 : Hid (xs.take (k + 1) = ys.take (k + 1)) := by
            show _ = _
            rw [List.take_succ_eq_append_getElem hlt, List.take_succ_eq_append_getElem hlt', HT.out, hq]
          clear hq
          go_wp2
          go_quiet (fail)
          go_wp2
          go_roundw
          case rel => exact ⟨k + 1, by omega, by go_num, HT2, V.out.drewN _⟩
          case measure => simp [intOf]; omega
        · have hn : (xs[k] != ys[k]) = true := by simp [hq]
          have HQ : Hid (xs ≠ ys) := by
            intro he; subst he; exact hq rfl
          clear hq
          go_wp2
          go_quiet (fail)
          go_wp2
          go_ret
          exact ⟨ret_bool (eqB_no HQ.out).symm, V.out.drewN _⟩
      · obtain rfl : k = xs.length := by omega
        have V := Lib.hid hw; clear hw
        go_wp2
        go_ret
        have e := HT.out
        rw [List.take_of_length_le (Nat.le_refl _), List.take_of_length_le (by have := HL.out; omega)] at e
        exact ⟨ret_bool (by rw [e, eqB_refl]), V.out⟩
  · have hlb : ((xs.length : Int) != (ys.length : Int)) = true := by simp; omega
    rw [eqB_no (fun h => hlen (by rw [h]))]
    clear hlen
    go_enter Try.func12, Try.ntmps12
    go_wp2
    go_ret
    exact ⟨rfl, Calm.refl _⟩

/-- The marks k, k + 1 and so on, n of them. -/
def marks (k : Int) : Nat → List Int
  | 0 => []
  | n + 1 => k :: marks (k + 1) n
theorem marks_length (k : Int) (n : Nat) : (marks k n).length = n := by
  induction n generalizing k with
  | zero => rfl
  | succ n ih => simp [marks, ih]
theorem marks_at (k : Int) (n i : Nat) (h : i < (marks k n).length) : (marks k n)[i] = k + i := by
  induction n generalizing k i with
  | zero => simp [marks] at h
  | succ n ih =>
    cases i with
    | zero => simp [marks]
    | succ i =>
      have := ih (k + 1) i (by simp [marks_length] at h ⊢; omega)
      simp only [marks, List.getElem_cons_succ, this]
      omega
end Go.Proofs.Ytbcmpgagceomgaa
