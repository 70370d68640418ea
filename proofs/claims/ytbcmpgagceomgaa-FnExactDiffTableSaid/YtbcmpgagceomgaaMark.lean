/- The walks of what the exact laws do with a list: marking it, and asking whether the marks are there. -/
import Derived.Test.YtbcmpgagceomgaaApp
namespace Go.Proofs.Ytbcmpgagceomgaa
open Go.RowKit

/-- What a function that makes a list of its own, and a bool, leaves. -/
def GivesB (w : World) (xs : List Int) (b : Bool) (e : Ending) (w' : World) : Prop :=
  ∃ A cap, e = .returned (.tuple #[.slice A xs.length cap, .bool b]) ∧ Own w' w.heap.size w'.heap.size (.slice A xs.length cap) xs ∧ Below w.heap.size w w'
theorem GivesB.mk {w w' : World} {xs : List Int} {b : Bool} {A : Option Addr} {n cap : Nat} {e : Ending} (he : e = .returned (.tuple #[.slice A n cap, .bool b])) (hn : n = xs.length)
    (h1 : Own w' w.heap.size w'.heap.size (.slice A n cap) xs) (h2 : Below w.heap.size w w') : GivesB w xs b e w' := by subst hn; exact ⟨A, cap, he, h1, h2⟩
theorem Gives.mk {w w' : World} {xs : List Int} {A : Option Addr} {n cap : Nat} {e : Ending} (he : e = .returned (.slice A n cap)) (hn : n = xs.length)
    (h1 : Own w' w.heap.size w'.heap.size (.slice A n cap) xs) (h2 : Below w.heap.size w w') : Gives w xs e w' := by subst hn; exact ⟨A, cap, he, h1, h2⟩

theorem Gives.len {w w' : World} {xs : List Int} {e : Ending} (h : Gives w xs e w') (n : Nat) (hn : n = xs.length) : ∃ A cap, e = .returned (.slice A n cap) ∧ Own w' w.heap.size w'.heap.size (.slice A n cap) xs ∧ Below w.heap.size w w' := by
  subst hn; exact h
theorem GivesB.len {w w' : World} {xs : List Int} {b : Bool} {e : Ending} (h : GivesB w xs b e w') (n : Nat) (hn : n = xs.length) : ∃ A cap, e = .returned (.tuple #[.slice A n cap, .bool b]) ∧ Own w' w.heap.size w'.heap.size (.slice A n cap) xs ∧ Below w.heap.size w w' := by
  subst hn; exact h

theorem Own.addr {w : World} {lo hi : Nat} {A : Option Addr} {n c : Nat} {xs : List Int} (h : Own w lo hi (.slice A n c) xs) (hp : 0 < n) : ∃ g, A = some ⟨g, 0, none⟩ ∧ lo ≤ g ∧ g < hi ∧ n = xs.length := by
  rcases h.1.2 with ⟨h', _⟩ | ⟨g, cap, cur, h', hlo, _⟩
  · simp only [Value.slice.injEq] at h'; omega
  · simp only [Value.slice.injEq] at h'
    obtain ⟨rfl, rfl, rfl⟩ := h'
    exact ⟨g, rfl, hlo, h.2 g rfl, rfl⟩
theorem Own.at_ {w : World} {lo hi g : Nat} {n c : Nat} {xs : List Int} (h : Own w lo hi (.slice (some ⟨g, 0, none⟩) n c) xs) (hn : n = xs.length) {k : Nat} (hk : k < xs.length) :
    w.cell? ⟨g, k, none⟩ = some (.int .i64 xs[k]) ∧ w.frozen? ⟨g, k, none⟩ = false := by
  subst hn
  exact ⟨by rw [World.ownsRow.cellAt h.1 k (by omega), ints_at hk], World.ownsRow.frozenAt h.1 k⟩
theorem Own.put {w : World} {lo hi g : Nat} {n c : Nat} {xs : List Int} (h : Own w lo hi (.slice (some ⟨g, 0, none⟩) n c) xs) (hn : n = xs.length) (k : Nat) (x : Int) :
    Own (w.setCell ⟨g, k, none⟩ (.int .i64 x)) lo hi (.slice (some ⟨g, 0, none⟩) n c) (xs.set k x) ∧ w.grownBy (w.setCell ⟨g, k, none⟩ (.int .i64 x)) (some g) := by
  subst hn
  have h2 := World.ownsRow.stored h.1 k (.int .i64 x)
  rw [ints_set] at h2
  exact ⟨⟨by rw [List.length_set]; exact h2.1, h.2⟩, h2.2⟩
theorem grownBy_trans {a b c : World} {row : Option Nat} (h1 : a.grownBy b row) (h2 : b.grownBy c row) : a.grownBy c row :=
  ⟨h2.os.trans h1.os, h2.tape.trans h1.tape, h2.output.trans h1.output, Nat.le_trans h1.size h2.size, fun k hk hne => (h2.block k (Nat.lt_of_lt_of_le hk h1.size) hne).trans (h1.block k hk hne)⟩

/-- A list whose first j numbers are the marks. -/
def over (k : Int) (xs : List Int) (j : Nat) : List Int := marks k j ++ xs.drop j
theorem marks_snoc (k : Int) (n : Nat) : marks k (n + 1) = marks k n ++ [k + n] := by
  induction n generalizing k with
  | zero => simp [marks]
  | succ n ih =>
    rw [marks, ih (k + 1), marks, List.cons_append]
    congr 3
    omega
theorem over_step (k : Int) (xs : List Int) (j : Nat) (h : j < xs.length) : (over k xs j).set j (k + j) = over k xs (j + 1) := by
  unfold over
  rw [List.drop_eq_getElem_cons h, List.set_append_right _ _ (by rw [marks_length]; exact Nat.le_refl _), marks_length, Nat.sub_self, List.set_cons_zero, marks_snoc, List.append_assoc]
  rfl
theorem over_length (k : Int) (xs : List Int) (j : Nat) (h : j ≤ xs.length) : (over k xs j).length = xs.length := by
  unfold over; rw [List.length_append, marks_length, List.length_drop]; omega
theorem over_all (k : Int) (xs : List Int) : over k xs xs.length = marks k xs.length := by simp [over]

set_option maxHeartbeats 1000000 in
theorem markIntS_any (A : Option Addr) (n cap : Nat) (xs : List Int) (k : Int) (w : World) (lo hi : Nat) (hn : n = xs.length) (ho : Own w lo hi (.slice A n cap) xs) (hx : n ≤ 10000000) (k0 : 0 ≤ k) (k1 : k ≤ 1000000000) :
    Calls Try.prog 13 #[.slice A n cap, .int .i64 k] w fun e w' => e = .returned (.int .i64 (k + n)) ∧ Own w' lo hi (.slice A n cap) (marks k n) ∧ w.grownBy w' (Value.slice A n cap).ownBlock := by
  have N := Lib.hid hn; have O := Lib.hid ho; clear hn ho
  go_enter Try.func13, Try.ntmps13
  go_wp2
  go_loopw [1, 5] (fun kk i wr => ∃ j : Nat, j ≤ n ∧ i = .int .i64 j ∧ kk = .int .i64 (k + j) ∧ Own wr lo hi (.slice A n cap) (over k xs j) ∧ w.grownBy wr (Value.slice A n cap).ownBlock) (fun _ i _ => n - (intOf i).toNat)
  case atStart => exact ⟨0, Nat.zero_le _, rfl, by simp, by simpa [over, marks] using O.out, World.grownBy.refl w _⟩
  case round =>
    obtain ⟨j, hj, rfl, rfl, ho, hg⟩ := hrel
    by_cases hlt : j < n
    · have hl : (over k xs j).length = n := by rw [over_length _ _ _ (by rw [← N.out]; exact hj), N.out]
      obtain ⟨g, rfl, hg1, hg2, hg3⟩ := ho.addr (by omega)
      clear hg1 hg2 hg3
      have hc := ho.at_ hl.symm (k := j) (by omega)
      have hp := ho.put hl.symm j (k + j)
      rw [over_step k xs j (by rw [← N.out]; exact hlt)] at hp
      obtain ⟨old, hold⟩ : ∃ u, wr.cell? ⟨g, j, none⟩ = some u := ⟨_, hc.1⟩
      have hfree := hc.2
      have P := Lib.hid hp; have G := Lib.hid hg; clear hp hg ho hc hl
      go_wp2
      go_roundw
      case rel => exact ⟨j + 1, by omega, by go_num, by congr 1; omega, P.out.1, grownBy_trans G.out P.out.2⟩
      case measure => simp [intOf] <;> omega
    · obtain rfl : j = n := by omega
      have hov : over k xs j = marks k j := by rw [N.out, over_all]
      rw [hov] at ho
      have P := Lib.hid ho; have G := Lib.hid hg; clear hg ho hov
      go_wp2
      go_ret
      exact ⟨rfl, P.out, G.out⟩

set_option maxHeartbeats 1000000 in
theorem heldIntS_any (A : Option Addr) (n cap : Nat) (k : Int) (w : World) (B : Nat) (hr : Row w B A (marks k n)) (hx : n ≤ 10000000) (k0 : 0 ≤ k) (k1 : k ≤ 1000000000) :
    Calls Try.prog 14 #[.slice A n cap, .int .i64 k] w fun e w' => e = .returned (.int .i64 (k + n)) ∧ w = w' := by
  have R := Lib.hid hr; clear hr
  go_enter Try.func14, Try.ntmps14
  go_wp2
  go_loop [1, 5] (fun kk i => ∃ j : Nat, j ≤ n ∧ i = .int .i64 j ∧ kk = .int .i64 (k + j)) (fun _ i => n - (intOf i).toNat)
  case atStart => exact ⟨0, Nat.zero_le _, rfl, by simp⟩
  case round =>
    obtain ⟨j, hj, rfl, rfl⟩ := hrel
    by_cases hlt : j < n
    · obtain ⟨b, o, rfl, hb, hc⟩ := R.out j (by rw [marks_length]; exact hlt)
      rw [marks_at] at hc
      go_wp2
      go_round
      case rel => exact ⟨j + 1, by omega, by go_num, by congr 1; omega⟩
      case measure => simp [intOf] <;> omega
    · obtain rfl : j = n := by omega
      go_wp2
      go_ret
      exact ⟨rfl, rfl⟩
end Go.Proofs.Ytbcmpgagceomgaa
