/- The walks of both texts of TurnWheels and WarnedWheels. -/
import Derived.Test.YtghgienpkffcbaaColC
import Derived.StillTailTactics
namespace Go.Proofs.Ytghgienpkffcbaa
open Go.RowKit

/-- A row of bytes that is filled from its front. -/
def fillB (l : List UInt8) (k : Nat) : List UInt8 := l.take k ++ List.replicate (l.length - k) 0
theorem fillB_zero (l : List UInt8) : fillB l 0 = List.replicate l.length 0 := by simp [fillB]
theorem fillB_all (l : List UInt8) : fillB l l.length = l := by simp [fillB]
theorem fillB_length (l : List UInt8) (k : Nat) (h : k ≤ l.length) : (fillB l k).length = l.length := by
  simp [fillB, List.length_take]; omega
theorem fillB_step (l : List UInt8) (k : Nat) (h : k < l.length) : (fillB l k).set k l[k] = fillB l (k + 1) := by
  unfold fillB
  obtain ⟨m, hm⟩ : ∃ m, l.length - k = m + 1 := ⟨l.length - k - 1, by omega⟩
  rw [hm, show l.length - (k + 1) = m by omega, List.set_append_right _ _ (by rw [List.length_take]; omega), List.length_take, Nat.min_eq_left (by omega), Nat.sub_self, List.replicate_succ, List.set_cons_zero, List.take_succ_eq_append_getElem h, List.append_assoc]
  rfl
theorem fill_step {W : World} {g : Nat} {t : TypeId} {l : List UInt8} {k : Nat} {x : Int} (h : Blk W g t (cB (fillB l k))) (hk : k < l.length) (hx : x = (l[k].toNat : Int)) :
    Blk (W.setCell ⟨g, k, none⟩ (.int .u8 x)) g t (cB (fillB l (k + 1))) := by
  have h2 := h.put k (.int .u8 (l[k].toNat : Int))
  rw [cB_set, fillB_step l k hk] at h2
  subst hx
  exact h2

theorem turnD_nat {x y : UInt8} (hx : 48 ≤ x.toNat ∧ x.toNat ≤ 57) (hy : 48 ≤ y.toNat ∧ y.toNat ≤ 57) : ((turnD x y).toNat : Int) = 48 + ((x.toNat : Int) - 48 + (y.toNat : Int) - 48) % 10 := by
  unfold turnD; rw [UInt8.toNat_ofNat']; omega
theorem warnD_nat {x y : UInt8} (hx : 48 ≤ x.toNat ∧ x.toNat ≤ 57) (hy : 48 ≤ y.toNat ∧ y.toNat ≤ 57) : ((warnD x y).toNat : Int) = 48 + ((x.toNat : Int) - 48 + (y.toNat : Int) - 48) / 10 := by
  unfold warnD; split
  · show (49 : Int) = _; omega
  · show (48 : Int) = _; omega
theorem turnW_length {a b : List UInt8} (h : a.length = b.length) : (turnW a b).length = a.length := by simp [turnW, h]
theorem warnW_length {a b : List UInt8} (h : a.length = b.length) : (warnW a b).length = a.length := by simp [warnW, h]
theorem turnW_at (a b : ByteArray) (k : Nat) (ha : k < a.size) (hb : k < b.size) (h : k < (turnW (bl a) (bl b)).length) : (turnW (bl a) (bl b))[k] = turnD a[k] b[k] := by
  simp only [turnW, List.getElem_zipWith]; rfl
theorem warnW_at (a b : ByteArray) (k : Nat) (ha : k < a.size) (hb : k < b.size) (h : k < (warnW (bl a) (bl b)).length) : (warnW (bl a) (bl b))[k] = warnD a[k] b[k] := by
  simp only [warnW, List.getElem_zipWith]; rfl

set_option maxHeartbeats 1000000 in
theorem turn_spec (a b : ByteArray) (w : World) (ha : a.size ≤ maxLen) (hb : b.size ≤ maxLen) :
    Calls Try.prog 24 #[.string a, .string b] w fun e w' => e = .returned (.tuple #[.string (str (turnL (bl a) (bl b))), .bool (alikeB (bl a) (bl b))]) ∧ Below w.heap.size w w' := by
  cases h : alikeB (bl a) (bl b)
  · rw [show turnL (bl a) (bl b) = [] by unfold turnL; rw [h]; rfl]
    have H := Lib.hid h; clear h
    go_enter Try.func24, Try.ntmps24
    go_wp2_with (go_at_call 43; refine (l1Pair_any _ _ _ ha hb).mono ?_; rintro e w' ⟨rfl, rfl⟩; rw [H.out])
    go_ret2
    exact ⟨rfl, Below.refl _ _⟩
  · rw [show turnL (bl a) (bl b) = turnW (bl a) (bl b) by unfold turnL; rw [if_pos h]]
    obtain ⟨c1, c2, c3⟩ := alikeB_iff.1 h
    have hz := col_size c1
    have hlen : (turnW (bl a) (bl b)).length = a.size := by rw [turnW_length c3, length_bl]
    have hab : b.size = a.size := by rw [← length_bl, ← length_bl, c3]
    have hmk := make_bytes a.size (by omega) (a.size : Int) rfl
    have hba : a.size ≤ b.size := by omega
    have L := Lib.hid hlen
    have H := Lib.hid h; have C1 := Lib.hid c1; have C2 := Lib.hid c2; clear h c1 c2 c3 hab hlen
    go_enter Try.func24, Try.ntmps24
    go_wp2_with (go_at_call 43; refine (l1Pair_any _ _ _ ha hb).mono ?_; rintro e w' ⟨rfl, rfl⟩; rw [H.out])
    go_loopw [7] (fun i wr => ∃ k : Nat, k ≤ a.size ∧ i = .int .i64 k ∧ Blk wr w.heap.size 5 (cB (fillB (turnW (bl a) (bl b)) k)) ∧ Below w.heap.size w wr) (fun i _ => a.size - (intOf i).toNat)
    case atStart => exact ⟨0, Nat.zero_le _, rfl, by rw [fillB_zero, L.out]; exact Blk.new _ _ _, (Below.refl _ _).alloc (Nat.le_refl _) _⟩
    case round =>
      obtain ⟨k, hk, rfl, hblk, hw⟩ := hrel
      by_cases hlt : k < a.size
      · have hltb : k < b.size := by omega
        have d1 := col_at C1.out k hlt
        have d2 := col_at C2.out k hltb
        have hold := cB_cell hblk (i := k) (by rw [fillB_length _ _ (by rw [L.out]; exact hk), L.out]; exact hlt)
        have hfree := hblk.free k
        have K := Lib.hid hblk; have V := Lib.hid hw; clear hblk hw
        go_wp2
        go_region
        go_wp2
        go_roundw
        case rel => exact ⟨k + 1, by omega, by go_num, fill_step K.out (by rw [L.out]; exact hlt) (by rw [turnW_at a b k hlt hltb, turnD_nat d1 d2]), (V.out.setCell (p := ⟨w.heap.size, k, none⟩) (Nat.le_refl _) _).drew⟩
        case measure => simp [intOf] <;> omega
      · obtain rfl : k = a.size := by omega
        have hc := string_of hblk (a.size) (a.size) (by rw [fillB_length _ _ (by rw [L.out]; exact Nat.le_refl _), L.out])
        rw [show fillB (turnW (bl a) (bl b)) a.size = turnW (bl a) (bl b) by rw [← L.out, fillB_all]] at hc
        have V := Lib.hid hw; clear hblk hw
        go_wp2
        go_ret2
        exact ⟨rfl, V.out⟩

set_option maxHeartbeats 1000000 in
theorem turn_impl (a b : ByteArray) (w : World) (ha : a.size ≤ maxLen) (hb : b.size ≤ maxLen) :
    Calls Try.prog 21 #[.string a, .string b] w fun e w' => e = .returned (.tuple #[.string (str (turnL (bl a) (bl b))), .bool (alikeB (bl a) (bl b))]) ∧ Below w.heap.size w w' := by
  cases h : alikeB (bl a) (bl b)
  · rw [show turnL (bl a) (bl b) = [] by unfold turnL; rw [h]; rfl]
    have H := Lib.hid h; clear h
    go_enter Try.func21, Try.ntmps21
    go_wp2_with (go_at_call 42; refine (alike_any _ _ _ ha hb).mono ?_; rintro e w' ⟨rfl, rfl⟩; rw [H.out])
    go_ret2
    exact ⟨rfl, Below.refl _ _⟩
  · rw [show turnL (bl a) (bl b) = turnW (bl a) (bl b) by unfold turnL; rw [if_pos h]]
    obtain ⟨c1, c2, c3⟩ := alikeB_iff.1 h
    have hz := col_size c1
    have hlen : (turnW (bl a) (bl b)).length = a.size := by rw [turnW_length c3, length_bl]
    have hab : b.size = a.size := by rw [← length_bl, ← length_bl, c3]
    have hmk := make_bytes a.size (by omega) (a.size : Int) rfl
    have hba : a.size ≤ b.size := by omega
    have L := Lib.hid hlen
    have H := Lib.hid h; have C1 := Lib.hid c1; have C2 := Lib.hid c2; clear h c1 c2 c3 hab hlen
    go_enter Try.func21, Try.ntmps21
    go_wp2_with (go_at_call 42; refine (alike_any _ _ _ ha hb).mono ?_; rintro e w' ⟨rfl, rfl⟩; rw [H.out])
    go_loopw [17] (fun i wr => ∃ k : Nat, k ≤ a.size ∧ i = .int .i64 k ∧ Blk wr w.heap.size 5 (cB (fillB (turnW (bl a) (bl b)) k)) ∧ Below w.heap.size w wr) (fun i _ => a.size - (intOf i).toNat)
    case atStart => exact ⟨0, Nat.zero_le _, rfl, by rw [fillB_zero, L.out]; exact Blk.new _ _ _, (Below.refl _ _).alloc (Nat.le_refl _) _⟩
    case round =>
      obtain ⟨k, hk, rfl, hblk, hw⟩ := hrel
      by_cases hlt : k < a.size
      · have hltb : k < b.size := by omega
        have d1 := col_at C1.out k hlt
        have d2 := col_at C2.out k hltb
        have hold := cB_cell hblk (i := k) (by rw [fillB_length _ _ (by rw [L.out]; exact hk), L.out]; exact hlt)
        have hfree := hblk.free k
        have K := Lib.hid hblk; have V := Lib.hid hw; clear hblk hw
        go_wp2
        go_region
        go_wp2
        go_roundw
        case rel => exact ⟨k + 1, by omega, by go_num, fill_step K.out (by rw [L.out]; exact hlt) (by rw [turnW_at a b k hlt hltb, turnD_nat d1 d2]), (V.out.setCell (p := ⟨w.heap.size, k, none⟩) (Nat.le_refl _) _).drew⟩
        case measure => simp [intOf] <;> omega
      · obtain rfl : k = a.size := by omega
        have hc := string_of hblk (a.size) (a.size) (by rw [fillB_length _ _ (by rw [L.out]; exact Nat.le_refl _), L.out])
        rw [show fillB (turnW (bl a) (bl b)) a.size = turnW (bl a) (bl b) by rw [← L.out, fillB_all]] at hc
        have V := Lib.hid hw; clear hblk hw
        go_wp2
        go_ret2
        exact ⟨rfl, V.out⟩

set_option maxHeartbeats 1000000 in
theorem warn_spec (a b : ByteArray) (w : World) (ha : a.size ≤ maxLen) (hb : b.size ≤ maxLen) :
    Calls Try.prog 25 #[.string a, .string b] w fun e w' => e = .returned (.tuple #[.string (str (warnL (bl a) (bl b))), .bool (alikeB (bl a) (bl b))]) ∧ Below w.heap.size w w' := by
  cases h : alikeB (bl a) (bl b)
  · rw [show warnL (bl a) (bl b) = [] by unfold warnL; rw [h]; rfl]
    have H := Lib.hid h; clear h
    go_enter Try.func25, Try.ntmps25
    go_wp2_with (go_at_call 43; refine (l1Pair_any _ _ _ ha hb).mono ?_; rintro e w' ⟨rfl, rfl⟩; rw [H.out])
    go_ret2
    exact ⟨rfl, Below.refl _ _⟩
  · rw [show warnL (bl a) (bl b) = warnW (bl a) (bl b) by unfold warnL; rw [if_pos h]]
    obtain ⟨c1, c2, c3⟩ := alikeB_iff.1 h
    have hz := col_size c1
    have hlen : (warnW (bl a) (bl b)).length = a.size := by rw [warnW_length c3, length_bl]
    have hab : b.size = a.size := by rw [← length_bl, ← length_bl, c3]
    have hmk := make_bytes a.size (by omega) (a.size : Int) rfl
    have hba : a.size ≤ b.size := by omega
    have L := Lib.hid hlen
    have H := Lib.hid h; have C1 := Lib.hid c1; have C2 := Lib.hid c2; clear h c1 c2 c3 hab hlen
    go_enter Try.func25, Try.ntmps25
    go_wp2_with (go_at_call 43; refine (l1Pair_any _ _ _ ha hb).mono ?_; rintro e w' ⟨rfl, rfl⟩; rw [H.out])
    go_loopw [7] (fun i wr => ∃ k : Nat, k ≤ a.size ∧ i = .int .i64 k ∧ Blk wr w.heap.size 5 (cB (fillB (warnW (bl a) (bl b)) k)) ∧ Below w.heap.size w wr) (fun i _ => a.size - (intOf i).toNat)
    case atStart => exact ⟨0, Nat.zero_le _, rfl, by rw [fillB_zero, L.out]; exact Blk.new _ _ _, (Below.refl _ _).alloc (Nat.le_refl _) _⟩
    case round =>
      obtain ⟨k, hk, rfl, hblk, hw⟩ := hrel
      by_cases hlt : k < a.size
      · have hltb : k < b.size := by omega
        have d1 := col_at C1.out k hlt
        have d2 := col_at C2.out k hltb
        have hold := cB_cell hblk (i := k) (by rw [fillB_length _ _ (by rw [L.out]; exact hk), L.out]; exact hlt)
        have hfree := hblk.free k
        have K := Lib.hid hblk; have V := Lib.hid hw; clear hblk hw
        go_wp2
        go_region
        go_wp2
        go_roundw
        case rel => exact ⟨k + 1, by omega, by go_num, fill_step K.out (by rw [L.out]; exact hlt) (by rw [warnW_at a b k hlt hltb, warnD_nat d1 d2]), (V.out.setCell (p := ⟨w.heap.size, k, none⟩) (Nat.le_refl _) _).drew⟩
        case measure => simp [intOf] <;> omega
      · obtain rfl : k = a.size := by omega
        have hc := string_of hblk (a.size) (a.size) (by rw [fillB_length _ _ (by rw [L.out]; exact Nat.le_refl _), L.out])
        rw [show fillB (warnW (bl a) (bl b)) a.size = warnW (bl a) (bl b) by rw [← L.out, fillB_all]] at hc
        have V := Lib.hid hw; clear hblk hw
        go_wp2
        go_ret2
        exact ⟨rfl, V.out⟩

set_option maxHeartbeats 1000000 in
theorem warn_impl (a b : ByteArray) (w : World) (ha : a.size ≤ maxLen) (hb : b.size ≤ maxLen) :
    Calls Try.prog 22 #[.string a, .string b] w fun e w' => e = .returned (.tuple #[.string (str (warnL (bl a) (bl b))), .bool (alikeB (bl a) (bl b))]) ∧ Below w.heap.size w w' := by
  cases h : alikeB (bl a) (bl b)
  · rw [show warnL (bl a) (bl b) = [] by unfold warnL; rw [h]; rfl]
    have H := Lib.hid h; clear h
    go_enter Try.func22, Try.ntmps22
    go_wp2_with (go_at_call 42; refine (alike_any _ _ _ ha hb).mono ?_; rintro e w' ⟨rfl, rfl⟩; rw [H.out])
    go_ret2
    exact ⟨rfl, Below.refl _ _⟩
  · rw [show warnL (bl a) (bl b) = warnW (bl a) (bl b) by unfold warnL; rw [if_pos h]]
    obtain ⟨c1, c2, c3⟩ := alikeB_iff.1 h
    have hz := col_size c1
    have hlen : (warnW (bl a) (bl b)).length = a.size := by rw [warnW_length c3, length_bl]
    have hab : b.size = a.size := by rw [← length_bl, ← length_bl, c3]
    have hmk := make_bytes a.size (by omega) (a.size : Int) rfl
    have hba : a.size ≤ b.size := by omega
    have L := Lib.hid hlen
    have H := Lib.hid h; have C1 := Lib.hid c1; have C2 := Lib.hid c2; clear h c1 c2 c3 hab hlen
    go_enter Try.func22, Try.ntmps22
    go_wp2_with (go_at_call 42; refine (alike_any _ _ _ ha hb).mono ?_; rintro e w' ⟨rfl, rfl⟩; rw [H.out])
    go_loopw [17] (fun i wr => ∃ k : Nat, k ≤ a.size ∧ i = .int .i64 k ∧ Blk wr w.heap.size 5 (cB (fillB (warnW (bl a) (bl b)) k)) ∧ Below w.heap.size w wr) (fun i _ => a.size - (intOf i).toNat)
    case atStart => exact ⟨0, Nat.zero_le _, rfl, by rw [fillB_zero, L.out]; exact Blk.new _ _ _, (Below.refl _ _).alloc (Nat.le_refl _) _⟩
    case round =>
      obtain ⟨k, hk, rfl, hblk, hw⟩ := hrel
      by_cases hlt : k < a.size
      · have hltb : k < b.size := by omega
        have d1 := col_at C1.out k hlt
        have d2 := col_at C2.out k hltb
        have hold := cB_cell hblk (i := k) (by rw [fillB_length _ _ (by rw [L.out]; exact hk), L.out]; exact hlt)
        have hfree := hblk.free k
        have hl : k < (warnW (bl a) (bl b)).length := by rw [L.out]; exact hlt
        have e : ((warnW (bl a) (bl b))[k] : UInt8) = warnD a[k] b[k] := warnW_at a b k hlt hltb hl
        have hset : ∀ x : Int, Blk (wr.setCell ⟨w.heap.size, k, none⟩ (.int .u8 48)) w.heap.size 5 (cB ((fillB (warnW (bl a) (bl b)) k).set k 48)) := fun _ => by
          have h2 := hblk.put k (.int .u8 ((48 : UInt8).toNat : Int))
          rw [cB_set] at h2
          exact h2
        by_cases h10 : 106 ≤ (a[k].toNat : Int) + (b[k].toNat : Int)
        · have ST : Hid (Blk ((wr.setCell ⟨w.heap.size, k, none⟩ (.int .u8 48)).setCell ⟨w.heap.size, k, none⟩ (.int .u8 49)) w.heap.size 5 (cB (fillB (warnW (bl a) (bl b)) (k + 1)))) := by
            have h2 := (hset 0).put k (.int .u8 ((49 : UInt8).toNat : Int))
            rw [cB_set, List.set_set] at h2
            have h3 := fillB_step (warnW (bl a) (bl b)) k hl
            rw [e, show warnD a[k] b[k] = 49 from if_pos (by omega)] at h3
            rw [h3] at h2
            exact h2
          have h10' : 10 ≤ (a[k].toNat : Int) - 48 + (b[k].toNat : Int) - 48 := by omega
          have V := Lib.hid hw; clear hblk hw hset e
          go_wp2
          go_quiet (fail)
          go_wp2
          go_roundw
          case rel => exact ⟨k + 1, by omega, by go_num, ST.out, below_drewN ((V.out.setCell (p := ⟨w.heap.size, k, none⟩) (Nat.le_refl _) _).setCell (p := ⟨w.heap.size, k, none⟩) (Nat.le_refl _) _) _⟩
          case measure => simp [intOf] <;> omega
        · have ST : Hid (Blk (wr.setCell ⟨w.heap.size, k, none⟩ (.int .u8 48)) w.heap.size 5 (cB (fillB (warnW (bl a) (bl b)) (k + 1)))) := by
            have h2 := hset 0
            have h3 := fillB_step (warnW (bl a) (bl b)) k hl
            rw [e, show warnD a[k] b[k] = 48 from if_neg (by omega)] at h3
            rw [h3] at h2
            exact h2
          have h10' : ¬ 10 ≤ (a[k].toNat : Int) - 48 + (b[k].toNat : Int) - 48 := by omega
          have V := Lib.hid hw; clear hblk hw hset e
          go_wp2
          go_quiet (fail)
          go_wp2
          go_roundw
          case rel => exact ⟨k + 1, by omega, by go_num, ST.out, below_drewN (V.out.setCell (p := ⟨w.heap.size, k, none⟩) (Nat.le_refl _) _) _⟩
          case measure => simp [intOf] <;> omega
      · obtain rfl : k = a.size := by omega
        have hc := string_of hblk (a.size) (a.size) (by rw [fillB_length _ _ (by rw [L.out]; exact Nat.le_refl _), L.out])
        rw [show fillB (warnW (bl a) (bl b)) a.size = warnW (bl a) (bl b) by rw [← L.out, fillB_all]] at hc
        have V := Lib.hid hw; clear hblk hw
        go_wp2
        go_ret2
        exact ⟨rfl, V.out⟩
end Go.Proofs.Ytghgienpkffcbaa
