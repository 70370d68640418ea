/- The walks of both texts of TurnWheels and WarnedWheels. -/
import Derived.Test.YthhkpghecekoeaaDoorColC
import Derived.StillTailTactics
namespace Go.Proofs.YthhkpghecekoeaaDoor
open Go.RowKit

/-- A row of bytes that is filled from its front. -/
def fillB (l : List UInt8) (k : Nat) : List UInt8 := l.take k ++ List.replicate (l.length - k) 0
theorem fillB_zero (l : List UInt8) : fillB l 0 = List.replicate l.length 0 := by simp [fillB]
theorem fillB_all (l : List UInt8) : fillB l l.length = l := by simp [fillB]
theorem fillB_length (l : List UInt8) (k : Nat) (h : k ≤ l.length) : (fillB l k).length = l.length := by
  simp [fillB, List.length_take]; omega
theorem fillB_step (l : List UInt8) (k : Nat) (h : k < l.length) : (fillB l k).set k l[k] = fillB l (k + 1) := by
  unfold fillB
  obtain ⟨m, hm⟩ : ∃ m, l.length - k = m + 1 := ⟨l.length - k - 1, by omega⟩
  rw [hm, show l.length - (k + 1) = m by omega, List.set_append_right _ _ (by rw [List.length_take]; omega), List.length_take, Nat.min_eq_left (by omega), Nat.sub_self, List.replicate_succ, List.set_cons_zero, List.take_succ_eq_append_getElem h, List.append_assoc]
  rfl
theorem fill_step {W : World} {g : Nat} {t : TypeId} {l : List UInt8} {k : Nat} {x : Int} (h : Blk W g t (cB (fillB l k))) (hk : k < l.length) (hx : x = (l[k].toNat : Int)) :
    Blk (W.setCell ⟨g, k, none⟩ (.int .u8 x)) g t (cB (fillB l (k + 1))) := by
  have h2 := h.put k (.int .u8 (l[k].toNat : Int))
  rw [cB_set, fillB_step l k hk] at h2
  subst hx
  exact h2

theorem turnD_nat {x y : UInt8} (hx : 48 ≤ x.toNat ∧ x.toNat ≤ 57) (hy : 48 ≤ y.toNat ∧ y.toNat ≤ 57) : ((turnD x y).toNat : Int) = 48 + ((x.toNat : Int) - 48 + (y.toNat : Int) - 48) % 10 := by
  unfold turnD; rw [UInt8.toNat_ofNat']; omega
theorem warnD_nat {x y : UInt8} (hx : 48 ≤ x.toNat ∧ x.toNat ≤ 57) (hy : 48 ≤ y.toNat ∧ y.toNat ≤ 57) : ((warnD x y).toNat : Int) = 48 + ((x.toNat : Int) - 48 + (y.toNat : Int) - 48) / 10 := by
  unfold warnD; split
  · show (49 : Int) = _; omega
  · show (48 : Int) = _; omega
theorem turnW_length {a b : List UInt8} (h : a.length = b.length) : (turnW a b).length = a.length := by simp [turnW, h]
theorem warnW_length {a b : List UInt8} (h : a.length = b.length) : (warnW a b).length = a.length := by simp [warnW, h]
theorem turnW_at (a b : ByteArray) (k : Nat) (ha : k < a.size) (hb : k < b.size) (h : k < (turnW (bl a) (bl b)).length) : (turnW (bl a) (bl b))[k] = turnD a[k] b[k] := by
  simp only [turnW, List.getElem_zipWith]; rfl
theorem warnW_at (a b : ByteArray) (k : Nat) (ha : k < a.size) (hb : k < b.size) (h : k < (warnW (bl a) (bl b)).length) : (warnW (bl a) (bl b))[k] = warnD a[k] b[k] := by
  simp only [warnW, List.getElem_zipWith]; rfl