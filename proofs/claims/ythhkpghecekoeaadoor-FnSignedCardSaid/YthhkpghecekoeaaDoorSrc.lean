/- The source of random numbers as one fact; what its draws leave. -/
import Derived.Test.YthhkpghecekoeaaDoorRdNum
import Derived.Test.YthhkpghecekoeaaDoorLists
namespace Go.Proofs.YthhkpghecekoeaaDoor
open Go.RowKit

theorem srcBlk_row {w : World} {g : Nat} {t : TypeId} {xs : List Int} (h : Blk w g t (cI xs)) : Row w w.heap.size (some ⟨g, 0, none⟩) xs :=
  fun k hk => ⟨g, 0, rfl, h.lt, by rw [Nat.zero_add]; exact cI_cell h hk⟩

/-- Block g is a source at place p; its bytes lie below. -/
structure Src (w : World) (g : Nat) (A : Option Addr) (m c : Nat) (p : Int) : Prop where
  blk : Blk w g 54 #[.slice A m c, .int .i64 p]
  row : RowB w g A m
  small : m ≤ 2000
  low : 0 ≤ p
theorem Src.lt {w : World} {g : Nat} {A : Option Addr} {m c : Nat} {p : Int} (S : Src w g A m c p) : g < w.heap.size := S.blk.lt
theorem Src.keep {w w' : World} {g : Nat} {A : Option Addr} {m c : Nat} {p : Int} {B : Nat} (S : Src w g A m c p) (hb : Below B w w') (hg : g < B) : Src w' g A m c p :=
  ⟨S.blk.keep hb hg, S.row.keep (hb.mono (Nat.le_of_lt hg)), S.small, S.low⟩
theorem Src.alloc {w : World} {g : Nat} {A : Option Addr} {m c : Nat} {p : Int} (S : Src w g A m c p) (o : Obj) : Src (w.alloc o) g A m c p :=
  S.keep ((Below.refl w.heap.size w).alloc (Nat.le_refl _) o) S.lt
theorem Src.put {w : World} {g : Nat} {A : Option Addr} {m c : Nat} {p : Int} (S : Src w g A m c p) {h : Nat} (hg : g < h) (i : Nat) (u : Value) : Src (w.setCell ⟨h, i, none⟩ u) g A m c p :=
  S.keep ((Below.refl h w).setCell (p := ⟨h, i, none⟩) (Nat.le_refl _) u) hg
theorem Src.drewN {w : World} {g : Nat} {A : Option Addr} {m c : Nat} {p : Int} (S : Src w g A m c p) (n : Nat) : Src (w.drewN n) g A m c p :=
  S.keep (B := g + 1) (below_drewN (Below.refl _ w) n) (Nat.lt_succ_self g)
theorem Src.drew {w : World} {g : Nat} {A : Option Addr} {m c : Nat} {p : Int} (S : Src w g A m c p) : Src w.drew g A m c p :=
  S.keep (B := g + 1) (Below.refl _ w).drew (Nat.lt_succ_self g)

theorem pick_S {w : World} {g : Nat} {A : Option Addr} {m c : Nat} {p : Int} (S : Src w g A m c p) (n : Int) (p1 : p ≤ 1000000) (n1 : 1 ≤ n) (n2 : n ≤ 1000000) :
    Calls Tryd.prog 45 #[.pointer (some ⟨g, 0, none⟩), .int .i64 n] w fun e w' => ∃ x, e = .returned (.int .i64 x) ∧ (0 ≤ x ∧ x < n) ∧ Src w' g A m c (p + 1) ∧ Turned g w w' :=
  (pick_any g A m c p n w S.blk S.row S.small S.low p1 n1 n2).mono fun _ _ ⟨x, he, h0, h1, hb, ht⟩ =>
    ⟨x, he, ⟨h0, h1⟩, ⟨hb, S.row.keep ht.below, S.small, by have := S.low; omega⟩, ht⟩

theorem open_S (A : Option Addr) (m c : Nat) (w : World) (hr : RowB w w.heap.size A m) (hc : m ≤ c) (hx : m ≤ 1048576) :
    Calls Tryd.prog 36 #[.slice A m c] w fun e w' => ∃ (m' c' : Nat), e = .returned (.pointer (some ⟨w.heap.size, 0, none⟩)) ∧ Src w' w.heap.size A m' c' 0 ∧ Below w.heap.size w w' :=
  (l9Open_any A m c w hr hc hx).mono fun _ _ ⟨m', c', he, hm, hb, hr, hw⟩ => ⟨m', c', he, ⟨hb, hr, hm, Int.le_refl _⟩, hw⟩

/-- A number out of a list that is written down at the call. -/
theorem num_S {w : World} {g : Nat} {A : Option Addr} {m c : Nat} {p : Int} (S : Src w g A m c p) (p1 : p ≤ 1000000) (xs : List Int) (n : Nat) (hn : n = xs.length) (n1 : 1 ≤ n) (n2 : n ≤ 1000) :
    Calls Tryd.prog 48 #[.pointer (some ⟨g, 0, none⟩), .slice (some ⟨w.heap.size, 0, none⟩) n n] (w.alloc (.cells (cI xs) 3)) fun e w' => ∃ x, (e = .returned (.int .i64 x) ∧ x ∈ xs) ∧ Src w' g A m c (p + 1) ∧ Below g w w' := by
  have S1 := S.alloc (.cells (cI xs) 3)
  have hl := S.lt
  refine (num_any g A m c p _ S1.blk S1.row S.small S.low p1 w.heap.size 0 n n xs (srcBlk_row (Blk.new w 3 (cI xs))) (by omega) hn n1 n2).mono ?_
  rintro e w' ⟨x, he, hb, ht⟩
  exact ⟨x, he, ⟨hb, S1.row.keep ht.below, S.small, by have := S.low; omega⟩, ((Below.refl g w).alloc (by omega) _).trans ht.below⟩

set_option maxHeartbeats 400000 in
theorem l1Any_S {w : World} {g : Nat} {A : Option Addr} {m c : Nat} {p : Int} (S : Src w g A m c p) (p1 : p ≤ 1000) :
    Calls Tryd.prog 39 #[.pointer (some ⟨g, 0, none⟩)] w fun e w' => ∃ k : Nat, (e = .returned (.int .i64 (k : Int)) ∧ 1 ≤ k ∧ k ≤ 12) ∧ Src w' g A m c (p + 1) ∧ Below g w w' := by
  have C := Lib.hid (num_S S (by omega) [4, 6, 1, 2, 3, 5, 8, 12] 8 rfl (by decide) (by decide))
  have hl := S.lt
  clear S
  go_enter Tryd.func39, Tryd.ntmps39
  go_wp2_with fail
  refine C.out.mono ?_
  rintro e w1 ⟨x, ⟨rfl, hx⟩, S1, hb⟩
  have h2 : ∃ k : Nat, x = (k : Int) ∧ 1 ≤ k ∧ k ≤ 12 := by
    simp at hx
    exact ⟨x.toNat, by omega, by omega, by omega⟩
  obtain ⟨k, rfl, k1, k2⟩ := h2
  have B := Lib.hid hb; have SS := Lib.hid S1; clear hb S1 hx
  go_wp2_with fail
  go_ret
  exact ⟨k, ⟨rfl, k1, k2⟩, SS.out, B.out⟩
end Go.Proofs.YthhkpghecekoeaaDoor
