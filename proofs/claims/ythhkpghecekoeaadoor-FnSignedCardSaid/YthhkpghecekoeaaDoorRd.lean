/- The source of random numbers: what it holds, and what one pick leaves. -/
import Derived.Test.YthhkpghecekoeaaDoorMem
import Derived.BigQuiet
import Derived.Deep.QuietTactic
namespace Go.Proofs.YthhkpghecekoeaaDoor
open Go.RowKit

/-- The slice of m bytes at the address A can be read; its cells lie below block B. -/
def RowB (w : World) (B : Nat) (A : Option Addr) (m : Nat) : Prop :=
  ∀ k, k < m → ∃ b o, ∃ c : Int, A = some ⟨b, o, none⟩ ∧ b < B ∧ w.cell? ⟨b, o + k, none⟩ = some (.int .u8 c) ∧ 0 ≤ c ∧ c ≤ 255
/-- Only block g has turned. -/
structure Turned (g : Nat) (w w' : World) : Prop where
  os : w'.os = w.os
  tape : w'.tape = w.tape
  output : w'.output = w.output
  size : w'.heap.size = w.heap.size
  block : ∀ k, k ≠ g → w'.heap[k]? = w.heap[k]?
theorem Turned.below {g : Nat} {w w' : World} (h : Turned g w w') : Below g w w' := ⟨h.os, h.tape, h.output, by rw [h.size]; exact Nat.le_refl _, fun k hk => h.block k (by omega)⟩
theorem Turned.put (w : World) (g i : Nat) (u : Value) : Turned g w (w.setCell ⟨g, i, none⟩ u) :=
  ⟨rfl, rfl, rfl, by simp [World.setCell], fun k hk => Below.heap_setCell _ _ _ _ hk⟩
theorem Turned.drew {g : Nat} {w w' : World} (h : Turned g w w') : Turned g w w'.drew := ⟨h.os, h.tape, h.output, h.size, h.block⟩
theorem Turned.drewN {g : Nat} {w w' : World} (h : Turned g w w') (n : Nat) : Turned g w (w'.drewN n) := ⟨h.os, h.tape, h.output, h.size, h.block⟩

theorem xor_pos (X Y : Int) (h0 : 0 ≤ X) (h1 : X ≤ 100000000) (k0 : 0 ≤ Y) (k1 : Y ≤ 100000000) : 0 ≤ bits .xor .i64 X Y ∧ bits .xor .i64 X Y ≤ 134217727 := by
  obtain ⟨a, rfl⟩ := Int.eq_ofNat_of_zero_le h0
  obtain ⟨b, rfl⟩ := Int.eq_ofNat_of_zero_le k0
  have hx : a ^^^ b < 2 ^ 27 := Nat.xor_lt_two_pow (by omega) (by omega)
  have e1 : (BitVec.ofInt 64 (a : Int)).toNat = a := by
    rw [BitVec.ofInt_natCast, BitVec.toNat_ofNat]; exact Nat.mod_eq_of_lt (by omega)
  have e2 : (BitVec.ofInt 64 (b : Int)).toNat = b := by
    rw [BitVec.ofInt_natCast, BitVec.toNat_ofNat]; exact Nat.mod_eq_of_lt (by omega)
  have e : bits .xor .i64 (a : Int) (b : Int) = ((a ^^^ b : Nat) : Int) := by
    show IntKind.i64.wrap ((BitVec.ofInt 64 (a : Int) ^^^ BitVec.ofInt 64 (b : Int)).toNat : Int) = _
    rw [BitVec.toNat_xor, e1, e2]
    simp [IntKind.wrap, IntKind.bits, IntKind.signed]
    omega
  rw [e]
  omega

set_option maxHeartbeats 1000000 in
theorem pick_any (g : Nat) (A : Option Addr) (m c : Nat) (p n : Int) (w : World) (hb : Blk w g 54 #[.slice A m c, .int .i64 p]) (hr : RowB w g A m) (hm : m ≤ 2000) (p0 : 0 ≤ p) (p1 : p ≤ 1000000) (n1 : 1 ≤ n) (n2 : n ≤ 1000000) :
    Calls Tryd.prog 45 #[.pointer (some ⟨g, 0, none⟩), .int .i64 n] w fun e w' => ∃ x, e = .returned (.int .i64 x) ∧ 0 ≤ x ∧ x < n ∧ Blk w' g 54 #[.slice A m c, .int .i64 (p + 1)] ∧ Turned g w w' := by
  have h0 := hb.cell 0
  have h1 := hb.cell 1
  simp at h0 h1
  have hf := hb.free 1
  have hb2 := hb.put 1 (.int .i64 (p + 1))
  have h3 := hb2.cell 0
  have h4 := hb2.cell 1
  simp at h3 h4
  have HB2 : Hid (Blk (w.setCell ⟨g, 1, none⟩ (.int .i64 (p + 1))) g 54 #[.slice A m c, .int .i64 (p + 1)]) := hb2
  have T := Lib.hid (Turned.put w g 1 (.int .i64 (p + 1)))
  have RK : Hid (∀ k, k < m → ∃ b o, ∃ c : Int, A = some ⟨b, o, none⟩ ∧ (w.setCell ⟨g, 1, none⟩ (.int .i64 (p + 1))).cell? ⟨b, o + k, none⟩ = some (.int .u8 c) ∧ 0 ≤ c ∧ c ≤ 255) := by
    intro k hk
    obtain ⟨b, o, c, e, hlt, hc, h1, h2⟩ := hr k hk
    exact ⟨b, o, c, e, by rw [T.out.below.cell (p := ⟨b, o + k, none⟩) hlt]; exact hc, h1, h2⟩
  clear hr hb hb2
  by_cases m0 : m = 0
  · subst m0
    go_enter Tryd.func45, Tryd.ntmps45
    go_wp2_with fail
    go_ret
    exact ⟨0, rfl, by omega, by omega, HB2.out, T.out⟩
  · have mb : ((m : Int) == 0) = false := by simp; omega
    have nb : ¬ n < 1 := by omega
    by_cases hpm : p < (m : Int)
    · obtain ⟨q, rfl⟩ := Int.eq_ofNat_of_zero_le p0
      have hq : q < m := by omega
      obtain ⟨b, o, x, rfl, hc, x0, x1⟩ := RK.out q hq
      have nz : n ≠ 0 := by omega
      have t0 := Int.emod_nonneg x nz
      have t1 := Int.emod_lt_of_pos x (show 0 < n by omega)
      go_enter Tryd.func45, Tryd.ntmps45
      go_wp2_with fail
      go_ret
      exact ⟨_, rfl, t0, t1, HB2.out, T.out⟩
    · obtain ⟨q, rfl⟩ := Int.eq_ofNat_of_zero_le p0
      have mz : (m : Int) ≠ 0 := by omega
      have nz : n ≠ 0 := by omega
      have hi1 : q % m < m := Nat.mod_lt _ (by omega)
      have hi2 : (q * 7 + 3) % m < m := Nat.mod_lt _ (by omega)
      obtain ⟨b, o, x, rfl, hc, x0, x1⟩ := RK.out _ hi1
      obtain ⟨b', o', y, e', hc', y0, y1⟩ := RK.out _ hi2
      simp only [Option.some.injEq, Addr.mk.injEq, and_true] at e'
      obtain ⟨rfl, rfl⟩ := e'
      have r0 : 0 ≤ (q : Int) % (m : Int) := Int.emod_nonneg _ mz
      have r1 : (q : Int) % (m : Int) < (m : Int) := Int.emod_lt_of_pos _ (by omega)
      have r2 : ((q : Int) % (m : Int)).toNat = q % m := by rw [← Int.natCast_emod]; rfl
      have s0 : 0 ≤ ((q : Int) * 7 + 3) % (m : Int) := Int.emod_nonneg _ mz
      have s1 : ((q : Int) * 7 + 3) % (m : Int) < (m : Int) := Int.emod_lt_of_pos _ (by omega)
      have s2 : (((q : Int) * 7 + 3) % (m : Int)).toNat = (q * 7 + 3) % m := by
        have e : ((q : Int) * 7 + 3) % (m : Int) = (((q * 7 + 3) % m : Nat) : Int) := by rw [Int.natCast_emod, Int.natCast_add, Int.natCast_mul]; rfl
        rw [e]; rfl
      have mb2 : (m : Int) ≤ 2000 := by omega
      have qb : (q : Int) / (m : Int) ≤ 1000000 := Int.le_trans (Int.ediv_le_self _ (by omega)) p1
      have qb0 : 0 ≤ (q : Int) / (m : Int) := Int.ediv_nonneg (by omega) (by omega)
      have hcN := hc
      have hcN' := hc'
      rw [← r2] at hc
      rw [← s2] at hc'
      clear r2 s2 hi1 hi2
      go_enter Tryd.func45, Tryd.ntmps45
      go_wp2_with fail
      go_region
      have X0 : 0 ≤ x * 131 + y * 1117 + (q : Int) * 29 + (q : Int) / (m : Int) * 53 := by omega
      have X1 : x * 131 + y * 1117 + (q : Int) * 29 + (q : Int) / (m : Int) * 53 ≤ 100000000 := by omega
      generalize x * 131 + y * 1117 + (q : Int) * 29 + (q : Int) / (m : Int) * 53 = X at *
      clear hc hc' hcN hcN' r0 r1 s0 s1 qb qb0
      have hxp := xor_pos X (X / 64) X0 X1 (Int.ediv_nonneg X0 (by decide)) (by omega)
      go_wp2_with fail
      go_ret
      have hx0 : 0 ≤ bits BinOp.xor IntKind.i64 X (X / 64) := hxp.1
      first
        | exact ⟨_, rfl, Int.tmod_nonneg n hx0, Int.tmod_lt_of_pos _ (by omega), HB2.out, T.out.drew⟩
        | exact ⟨_, rfl, Int.emod_nonneg _ nz, Int.emod_lt_of_pos _ (by omega), HB2.out, T.out.drew⟩
end Go.Proofs.YthhkpghecekoeaaDoor
