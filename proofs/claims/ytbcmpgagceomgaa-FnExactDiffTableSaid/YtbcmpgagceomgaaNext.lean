/- The walks of both texts of the differences of neighbors, and of the test for zeros. -/
import Derived.Test.YtbcmpgagceomgaaPolyA
import Derived.Test.YtbcmpgagceomgaaDiffPlain
import Derived.StillTailTactics
import Derived.IntWalk
namespace Go.Proofs.Ytbcmpgagceomgaa
open Go.RowKit

set_option maxHeartbeats 1000000 in
theorem neighbors_any (A : Option Addr) (n cap : Nat) (xs : List Int) (w : World) (hr : Row w w.heap.size A xs) (hn : n = xs.length) (hx : n ≤ 1000) (hb : 2 ≤ n → ∀ x ∈ xs, -4000000000000000000 ≤ x ∧ x ≤ 4000000000000000000) :
    Calls Try.prog 42 #[.slice A n cap] w (Gives w (nextD xs)) := by
  by_cases h2 : n < 2
  · rw [nextD_short (by omega)]
    clear hr hb
    go_enter Try.func42, Try.ntmps42
    go_wp2_with fail
    go_ret
    exact ⟨_, _, rfl, Own.none_ _ _ _, Below.refl _ _⟩
  · obtain ⟨m, rfl⟩ : ∃ m, n = m + 1 := ⟨n - 1, by omega⟩
    have hmk := make_ints m (by omega) (m : Int) rfl
    have hl : (nextD xs).length = m := by rw [nextD_length]; omega
    have L := Lib.hid hl; have N := Lib.hid hn; have R := Lib.hid hr; have HB := Lib.hid (hb (by omega)); clear hn hr hb hl
    go_enter Try.func42, Try.ntmps42
    go_wp2_with fail
    go_loopw [14] (fun i wr => ∃ k : Nat, k ≤ m ∧ i = .int .i64 k ∧ Blk wr w.heap.size 3 (cI (part (nextD xs) k)) ∧ Below w.heap.size w wr) (fun i _ => m - (intOf i).toNat)
    case atStart => exact ⟨0, Nat.zero_le _, rfl, by rw [part_zero, L.out]; exact Blk.new _ _ _, (Below.refl _ _).alloc (Nat.le_refl _) _⟩
    case round =>
      obtain ⟨k, hk, rfl, hblk, hw⟩ := hrel
      by_cases hlt : k < m
      · have hk1 : k + 1 < xs.length := by have := N.out; omega
        have hkd : k < (nextD xs).length := by rw [L.out]; exact hlt
        obtain ⟨b, o, rfl, hbw, hc⟩ := (R.out.keep hw) k (by omega)
        obtain ⟨b', o', e', _, hc'⟩ := (R.out.keep hw) (k + 1) hk1
        simp only [Option.some.injEq, Addr.mk.injEq, and_true] at e'
        obtain ⟨rfl, rfl⟩ := e'
        have bd1 := HB.out xs[k] (List.getElem_mem _)
        have bd2 := HB.out xs[k + 1] (List.getElem_mem _)
        have hold := cI_cell hblk (i := k) (by rw [part_length _ _ (by rw [L.out]; exact hk)]; exact hkd)
        have hfree := hblk.free k
        have ST : Hid (Blk (wr.setCell ⟨w.heap.size, k, none⟩ (.int .i64 (xs[k + 1] - xs[k]))) w.heap.size 3 (cI (part (nextD xs) (k + 1)))) := by
          have h2 := hblk.put k (.int .i64 (nextD xs)[k])
          rw [cI_set, part_step _ _ hkd, nextD_at hkd hk1] at h2
          exact h2
        have V := Lib.hid hw; clear hblk hw
        go_wp2
        go_region
        go_wp2
        go_roundw
        case rel => exact ⟨k + 1, by omega, by go_num, ST.out, (V.out.setCell (p := ⟨w.heap.size, k, none⟩) (Nat.le_refl _) _).drew⟩
        case measure => simp [intOf] <;> omega
      · obtain rfl : k = m := by omega
        have e : part (nextD xs) k = nextD xs := by rw [← L.out, part_all]
        rw [e] at hblk
        have hs := hblk.lt
        have K := Lib.hid hblk; have V := Lib.hid hw; clear hblk hw e
        go_wp2
        go_ret
        refine Gives.mk rfl L.out.symm ?_ V.out
        have h2 := Own.block (lo := w.heap.size) (hi := wr.heap.size) K.out rfl (Nat.le_refl _) hs (by rw [L.out]; unfold maxLen; omega)
        rw [L.out] at h2
        exact h2

theorem take_next {xs : List Int} {k : Nat} (h : k < (nextD xs).length) (h1 : k + 1 < xs.length) : (nextD xs).take k ++ [xs[k + 1] - xs[k]] = (nextD xs).take (k + 1) := by
  rw [List.take_succ_eq_append_getElem h, nextD_at h h1]

set_option maxHeartbeats 1000000 in
theorem l2Next_any (A : Option Addr) (n cap : Nat) (xs : List Int) (w : World) (hr : Row w w.heap.size A xs) (hn : n = xs.length) (hx : n ≤ 1000) (hb : 2 ≤ n → ∀ x ∈ xs, -4000000000000000000 ≤ x ∧ x ≤ 4000000000000000000) :
    Calls Try.prog 56 #[.slice A n cap] w (Gives w (nextD xs)) := by
  have hl : (nextD xs).length = n - 1 := by rw [nextD_length]; omega
  have L := Lib.hid hl; have N := Lib.hid hn; have R := Lib.hid hr; have HB := Lib.hid hb; clear hn hr hb hl
  go_enter Try.func56, Try.ntmps56
  go_wp2_with fail
  go_loopw [3, 4] (fun v i wr => ∃ (k : Nat) (A1 : Option Addr) (c1 : Nat), k ≤ n - 1 ∧ i = .int .i64 k ∧ v = .slice A1 k c1 ∧ Own wr w.heap.size wr.heap.size (.slice A1 k c1) ((nextD xs).take k) ∧ Below w.heap.size w wr) (fun _ i _ => n - (intOf i).toNat)
  case atStart => exact ⟨0, _, _, Nat.zero_le _, rfl, rfl, Own.empty w, (Below.refl _ _).alloc (Nat.le_refl _) _⟩
  case round =>
    obtain ⟨k, A1, c1, hk, rfl, rfl, ho, hw⟩ := hrel
    by_cases hlt : k + 1 < n
    · have hk1 : k + 1 < xs.length := by have := N.out; omega
      have hkd : k < (nextD xs).length := by rw [L.out]; omega
      obtain ⟨b, o, rfl, hbw, hc⟩ := (R.out.keep hw) k (by omega)
      obtain ⟨b', o', e', _, hc'⟩ := (R.out.keep hw) (k + 1) hk1
      simp only [Option.some.injEq, Addr.mk.injEq, and_true] at e'
      obtain ⟨rfl, rfl⟩ := e'
      have bd1 := HB.out (by omega) xs[k] (List.getElem_mem _)
      have bd2 := HB.out (by omega) xs[k + 1] (List.getElem_mem _)
      have etk := take_next hkd hk1
      generalize xs[k] = x0 at *
      generalize xs[k + 1] = x1 at *
      have TK := Lib.hid etk; clear etk
      have hlt' : (k : Int) + 1 < (n : Int) := by omega
      have O := Lib.hid ho; have V := Lib.hid hw; clear ho hw
      go_wp2_with fail
      have hk63 : k + 1 ≤ 1000 := by omega
      have q4 : k + 1 = ((nextD xs).take k).length + [x1 - x0].length := by rw [List.length_take]; simp; omega
      have Q4 := Lib.hid q4; clear q4
      have q1 : IntKind.i64.wrap ((k : Int) + 1) = (k : Int) + 1 := IntWalk.i64_in _ (by omega)
      have q2 : IntKind.i64.wrap (x1 - x0) = x1 - x0 := IntWalk.i64_in _ (by omega)
      have q0 : (0 : Int) ≤ (k : Int) + 1 := by omega
      have q3 : ((k : Int) + 1).toNat = k + 1 := by omega
      have q5 : k < n := by omega
      go_region_law (refine step_app rfl _ _ rfl rfl (O.out.below (((Below.refl wr.heap.size wr).alloc (Nat.le_refl _) (.cells #[.int .i64 (x1 - x0)] 3)).drew) (Nat.le_refl _)) (Nat.le_trans V.out.size (by simp)) rfl rfl (Row.single wr (x1 - x0) 3) (by have := Q4.out; omega) (k + 1) Q4.out ?_; intro A2 c2 w2 ho2 hg2; have O2 := Lib.hid ho2; have G2 := Lib.hid hg2; clear ho2 hg2)
      all_goals
        clear q0 q1 q2 q3 hc hc'
        go_wp2_with fail
        go_roundw
        case rel => exact ⟨k + 1, A2, c2, by omega, by go_num, rfl, by have h := O2.out; rw [TK.out] at h; exact h, below_grown ((V.out.alloc V.out.size (.cells #[.int .i64 (x1 - x0)] 3)).drew) G2.out (O.out.below (((Below.refl wr.heap.size wr).alloc (Nat.le_refl _) (.cells #[.int .i64 (x1 - x0)] 3)).drew) (Nat.le_refl _)) (Nat.le_trans V.out.size (by simp)) (Nat.le_refl _)⟩
        case measure => simp [intOf] <;> omega
    · have e : k = n - 1 := by omega
      have ek : (nextD xs).take k = nextD xs := List.take_of_length_le (by rw [L.out]; omega)
      rw [ek] at ho
      have hlt' : ¬ (k : Int) + 1 < (n : Int) := by omega
      have E := Lib.hid e; have O := Lib.hid ho; have V := Lib.hid hw; clear ho hw ek e
      go_wp2_with fail
      go_ret
      exact Gives.mk rfl (by rw [L.out, E.out]) O.out V.out
end Go.Proofs.Ytbcmpgagceomgaa
