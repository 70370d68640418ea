/- The walks of both texts of ColumnValid and ValueOf, and of what they call. -/
import Derived.Test.YthhkpghecekoeaaDoorBase
import Derived.Test.YthhkpghecekoeaaDoorColPlain
import Derived.Test.YthhkpghecekoeaaDoorInB
namespace Go.Proofs.YthhkpghecekoeaaDoor
open Go.RowKit

set_option maxHeartbeats 400000 in
theorem widthValid_any (n : Int) (w : World) :
    Calls Tryd.prog 25 #[.int .i64 n] w fun e w' => e = .returned (.bool (inB n 1 12)) ∧ w = w' := by
  by_cases ha : 1 ≤ n
  · by_cases hb : n ≤ 12
    · rw [inB_mk ha hb]
      go_enter Tryd.func25, Tryd.ntmps25
      go_wp2
      go_ret
      exact ⟨rfl, rfl⟩
    · rw [inB_no (by omega)]
      go_enter Tryd.func25, Tryd.ntmps25
      go_wp2
      go_ret
      exact ⟨rfl, rfl⟩
  · rw [inB_no (by omega)]
    go_enter Tryd.func25, Tryd.ntmps25
    go_wp2
    go_ret
    exact ⟨rfl, rfl⟩

set_option maxHeartbeats 400000 in
theorem l1Width_any (n : Int) (w : World) :
    Calls Tryd.prog 28 #[.int .i64 n] w fun e w' => e = .returned (.bool (inB n 1 12)) ∧ w = w' := by
  go_enter Tryd.func28, Tryd.ntmps28
  go_wp2_with (go_at_call 40; refine (l1In_any _ _ _ _).mono ?_; rintro e w' ⟨rfl, rfl⟩)
  go_ret
  exact ⟨rfl, rfl⟩

set_option maxHeartbeats 1000000 in
theorem columnValid_spec (s : ByteArray) (w : World) (hs : s.size ≤ maxLen) :
    Calls Tryd.prog 19 #[.string s] w fun e w' => e = .returned (.bool (colB (bl s))) ∧ w = w' := by
  unfold maxLen at hs
  go_enter Tryd.func19, Tryd.ntmps19
  go_wp2
  go_loop [3] (fun i => ∃ k : Nat, k ≤ s.size ∧ i = .int .i64 k ∧ Hid (∀ c ∈ (bl s).take k, 48 ≤ c.toNat ∧ c.toNat ≤ 57)) (fun i => s.size - (intOf i).toNat)
  case atStart => exact ⟨0, Nat.zero_le _, rfl, fun c hc => by simp at hc⟩
  case round =>
    obtain ⟨k, hk, rfl, H⟩ := hrel
    by_cases hlt : k < s.size
    · have hat := Lib.hid (bl_at s k hlt)
      by_cases hlo : 48 ≤ s[k].toNat
      · by_cases hhi : s[k].toNat ≤ 57
        · have H2 : Hid (∀ c ∈ (bl s).take (k + 1), 48 ≤ c.toNat ∧ c.toNat ≤ 57) := mem_take_snoc hlt H.out ⟨hlo, hhi⟩
          go_wp2
          go_round
          case rel => exact ⟨k + 1, by omega, by go_num, H2⟩
          case measure => simp [intOf]; omega
        · go_wp2
          go_ret
          exact ⟨ret_bool (colB_bad hat.out (by omega)).symm, rfl⟩
      · go_wp2
        go_ret
        exact ⟨ret_bool (colB_bad hat.out (by omega)).symm, rfl⟩
    · obtain rfl : k = s.size := by omega
      go_wp2_with (go_at_call 28; refine (l1Width_any _ _).mono ?_; rintro e w' ⟨rfl, rfl⟩)
      go_ret
      refine ⟨?_, rfl⟩
      have H := H.out
      rw [take_bl_all] at H
      cases hb : inB (s.size : Int) 1 12
      · have := inB_false hb
        exact ret_bool (colB_long (by rw [length_bl]; omega)).symm
      · have := inB_true hb
        exact ret_bool (colB_mk (by rw [length_bl]; omega) (by rw [length_bl]; omega) H).symm

set_option maxHeartbeats 1000000 in
theorem columnValid_impl (s : ByteArray) (w : World) (hs : s.size ≤ maxLen) :
    Calls Tryd.prog 13 #[.string s] w fun e w' => e = .returned (.bool (colB (bl s))) ∧ w = w' := by
  unfold maxLen at hs
  cases hb : inB (s.size : Int) 1 12
  · have h := inB_false hb
    rw [colB_long (by rw [length_bl]; omega)]
    have B := Lib.hid hb; clear hb
    go_enter Tryd.func13, Tryd.ntmps13
    go_wp2_with (go_at_call 25; refine (widthValid_any _ _).mono ?_; rintro e w' ⟨rfl, rfl⟩; rw [B.out])
    go_ret
    exact ⟨rfl, rfl⟩
  · have h := inB_true hb
    have B := Lib.hid hb; clear hb
    go_enter Tryd.func13, Tryd.ntmps13
    go_wp2_with (go_at_call 25; refine (widthValid_any _ _).mono ?_; rintro e w' ⟨rfl, rfl⟩; rw [B.out])
    go_loop [10] (fun i => ∃ k : Nat, k ≤ s.size ∧ i = .int .i64 k ∧ Hid (∀ c ∈ (bl s).take k, 48 ≤ c.toNat ∧ c.toNat ≤ 57)) (fun i => s.size - (intOf i).toNat)
    case atStart => exact ⟨0, Nat.zero_le _, rfl, fun c hc => by simp at hc⟩
    case round =>
      obtain ⟨k, hk, rfl, H⟩ := hrel
      by_cases hlt : k < s.size
      · have hat := Lib.hid (bl_at s k hlt)
        by_cases hlo : 48 ≤ s[k].toNat
        · by_cases hhi : s[k].toNat ≤ 57
          · have H2 : Hid (∀ c ∈ (bl s).take (k + 1), 48 ≤ c.toNat ∧ c.toNat ≤ 57) := mem_take_snoc hlt H.out ⟨hlo, hhi⟩
            go_wp2
            go_round
            case rel => exact ⟨k + 1, by omega, by go_num, H2⟩
            case measure => simp [intOf]; omega
          · go_wp2
            go_ret
            exact ⟨ret_bool (colB_bad hat.out (by omega)).symm, rfl⟩
        · go_wp2
          go_ret
          exact ⟨ret_bool (colB_bad hat.out (by omega)).symm, rfl⟩
      · obtain rfl : k = s.size := by omega
        go_wp2
        go_ret
        refine ⟨?_, rfl⟩
        have H := H.out
        rw [take_bl_all] at H
        exact ret_bool (colB_mk (by rw [length_bl]; omega) (by rw [length_bl]; omega) H).symm

/-- A column's digits, and what its first digits show. -/
theorem col_at {s : ByteArray} (h : colB (bl s) = true) (k : Nat) (hk : k < s.size) : 48 ≤ s[k].toNat ∧ s[k].toNat ≤ 57 :=
  colB_dig h _ (mem_at (bl_at s k hk))
theorem val_small {l : List UInt8} (h : ∀ c ∈ l, 48 ≤ c.toNat ∧ c.toNat ≤ 57) (hl : l.length ≤ 12) : 0 ≤ val l ∧ val l ≤ 999999999999 := by
  have hb := val_bd l h
  have e := p10_big hl
  unfold p10 at e
  omega
theorem col_size {s : ByteArray} (h : colB (bl s) = true) : 1 ≤ s.size ∧ s.size ≤ 12 := by
  have := colB_len h; rw [length_bl] at this; exact this
theorem val_take_small {s : ByteArray} (h : ∀ c ∈ bl s, 48 ≤ c.toNat ∧ c.toNat ≤ 57) (hl : s.size ≤ 12) (k : Nat) : 0 ≤ val ((bl s).take k) ∧ val ((bl s).take k) ≤ 999999999999 :=
  val_small (fun c hc => h c (List.mem_of_mem_take hc)) (by rw [List.length_take, length_bl]; omega)

set_option maxHeartbeats 1000000 in
theorem l1Value_any (s : ByteArray) (w : World) (hl : s.size ≤ 12) (hd : ∀ c ∈ bl s, 48 ≤ c.toNat ∧ c.toNat ≤ 57) :
    Calls Tryd.prog 33 #[.string s] w fun e w' => e = .returned (.int .i64 (val (bl s))) ∧ w = w' := by
  have D := Lib.hid hd; clear hd
  go_enter Tryd.func33, Tryd.ntmps33
  go_wp2
  go_loop [3, 4] (fun v i => ∃ k : Nat, k ≤ s.size ∧ i = .int .i64 k ∧ v = .int .i64 (val ((bl s).take k))) (fun _ i => s.size - (intOf i).toNat)
  case atStart => exact ⟨0, Nat.zero_le _, rfl, rfl⟩
  case round =>
    obtain ⟨k, hk, rfl, rfl⟩ := hrel
    have hv := val_take_small D.out hl k
    by_cases hlt : k < s.size
    · have hc := D.out _ (mem_at (bl_at s k hlt))
      have HV := Lib.hid (val_take s k hlt)
      go_wp2
      go_round
      case rel => exact ⟨k + 1, by omega, by go_num, by rw [HV.out]; go_num⟩
      case measure => simp [intOf]; omega
    · obtain rfl : k = s.size := by omega
      go_wp2
      go_ret
      exact ⟨ret_int (by rw [take_bl_all]), rfl⟩

/-- What ValueOf returns. -/
def valOf (l : List UInt8) : Int := if colB l = true then val l else -1
theorem valOf_yes {l : List UInt8} (h : colB l = true) : valOf l = val l := if_pos h
theorem valOf_no {l : List UInt8} (h : colB l = false) : valOf l = -1 := by unfold valOf; rw [h]; rfl

set_option maxHeartbeats 1000000 in
theorem valueOf_impl (s : ByteArray) (w : World) (hs : s.size ≤ maxLen) :
    Calls Tryd.prog 15 #[.string s] w fun e w' => e = .returned (.int .i64 (valOf (bl s))) ∧ w = w' := by
  cases hb : colB (bl s)
  · rw [valOf_no hb]
    have B := Lib.hid hb; clear hb
    go_enter Tryd.func15, Tryd.ntmps15
    go_wp2_with (go_at_call 13; refine (columnValid_impl _ _ hs).mono ?_; rintro e w' ⟨rfl, rfl⟩; rw [B.out])
    go_ret
    exact ⟨rfl, rfl⟩
  · rw [valOf_yes hb]
    have hz := col_size hb
    have B := Lib.hid hb; clear hb
    go_enter Tryd.func15, Tryd.ntmps15
    go_wp2_with (go_at_call 13; refine (columnValid_impl _ _ hs).mono ?_; rintro e w' ⟨rfl, rfl⟩; rw [B.out])
    go_loop [3, 10] (fun v i => ∃ k : Nat, k ≤ s.size ∧ i = .int .i64 k ∧ v = .int .i64 (val ((bl s).take k))) (fun _ i => s.size - (intOf i).toNat)
    case atStart => exact ⟨0, Nat.zero_le _, rfl, rfl⟩
    case round =>
      obtain ⟨k, hk, rfl, rfl⟩ := hrel
      have hv := val_take_small (colB_dig B.out) hz.2 k
      by_cases hlt : k < s.size
      · have hc := col_at B.out k hlt
        have HV := Lib.hid (val_take s k hlt)
        go_wp2
        go_round
        case rel => exact ⟨k + 1, by omega, by go_num, by rw [HV.out]⟩
        case measure => simp [intOf]; omega
      · obtain rfl : k = s.size := by omega
        go_wp2
        go_ret
        exact ⟨ret_int (by rw [take_bl_all]), rfl⟩
end Go.Proofs.YthhkpghecekoeaaDoor
