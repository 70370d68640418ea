/- The walks of both texts of CarryAhead, and of the tests on marks. -/
import Derived.Test.YtghgienpkffcbaaColD
import Derived.Test.YtghgienpkffcbaaAheadPlain
import Derived.Lib.IndexBytes
namespace Go.Proofs.Ytghgienpkffcbaa
open Go.RowKit

theorem ret_str {a b : ByteArray} (h : a = b) : Ending.returned (.string a) = .returned (.string b) := by rw [h]
theorem up_str (s : ByteArray) : s.extract 1 s.size ++ ⟨#[48]⟩ = str (upL (bl s)) := by
  apply bl_inj
  rw [bl_str]
  have e := Lib.extract_to_end s 1
  unfold bl upL
  rw [ByteArray.data_append, Array.toList_append, e]

set_option maxHeartbeats 1000000 in
theorem l1Up_any (s : ByteArray) (w : World) (hs : s.size ≤ maxLen) (h1 : 1 ≤ s.size) :
    Calls Try.prog 28 #[.string s] w fun e w' => e = .returned (.string (str (upL (bl s)))) ∧ w = w' := by
  unfold maxLen at hs
  go_enter Try.func28, Try.ntmps28
  go_wp2
  go_ret
  exact ⟨ret_str (up_str s), rfl⟩

set_option maxHeartbeats 1000000 in
theorem marksFit_any (a b : ByteArray) (w : World) (ha : a.size ≤ maxLen) :
    Calls Try.prog 29 #[.string a, .string b] w fun e w' => e = .returned (.bool (marksB (bl a) (bl b))) ∧ w = w' := by
  cases h1 : colB (bl a)
  · rw [show marksB (bl a) (bl b) = false by unfold marksB; rw [h1]; rfl]
    have H1 := Lib.hid h1; clear h1
    go_enter Try.func29, Try.ntmps29
    go_wp2_with (go_at_call 40; refine (columnValid_impl _ _ (by assumption)).mono ?_; rintro e w' ⟨rfl, rfl⟩; rw [H1.out])
    go_ret
    exact ⟨rfl, rfl⟩
  · by_cases hl : b.size = a.size
    · have hz := col_size h1
      have hn : ((b.size : Int) != (a.size : Int)) = false := by simp [hl]
      have hbz : b.size ≤ 12 := by omega
      have H1 := Lib.hid h1; have HL := Lib.hid hl; clear h1 hl
      go_enter Try.func29, Try.ntmps29
      go_wp2_with (go_at_call 40; refine (columnValid_impl _ _ (by assumption)).mono ?_; rintro e w' ⟨rfl, rfl⟩; rw [H1.out])
      go_loop [18] (fun i => ∃ k : Nat, k ≤ b.size ∧ i = .int .i64 k ∧ Hid (∀ x ∈ (bl b).take k, x.toNat = 48 ∨ x.toNat = 49)) (fun i => b.size - (intOf i).toNat)
      case atStart => exact ⟨0, Nat.zero_le _, rfl, fun c hc => by simp at hc⟩
      case round =>
        obtain ⟨k, hk, rfl, H⟩ := hrel
        by_cases hlt : k < b.size
        · have hat := Lib.hid (bl_at b k hlt)
          by_cases h48 : b[k].toNat = 48
          · have H2 : Hid (∀ x ∈ (bl b).take (k + 1), x.toNat = 48 ∨ x.toNat = 49) := mem_take_snoc hlt H.out (.inl h48)
            have t1 : ((b[k].toNat : Int) != 48) = false := by simp; omega
            clear h48
            go_wp2
            go_round
            case rel => exact ⟨k + 1, by omega, by go_num, H2⟩
            case measure => simp [intOf] <;> omega
          · have t1 : ((b[k].toNat : Int) != 48) = true := by simp; omega
            by_cases h49 : b[k].toNat = 49
            · have H2 : Hid (∀ x ∈ (bl b).take (k + 1), x.toNat = 48 ∨ x.toNat = 49) := mem_take_snoc hlt H.out (.inr h49)
              have t2 : ((b[k].toNat : Int) != 49) = false := by simp; omega
              clear h48 h49
              go_wp2
              go_round
              case rel => exact ⟨k + 1, by omega, by go_num, H2⟩
              case measure => simp [intOf] <;> omega
            · have t2 : ((b[k].toNat : Int) != 49) = true := by simp; omega
              have F := Lib.hid (marksB_bad (c := bl a) hat.out (by omega))
              clear h48 h49
              go_wp2
              go_ret
              exact ⟨ret_bool F.out.symm, rfl⟩
        · obtain rfl : k = b.size := by omega
          go_wp2
          go_ret
          have H := H.out
          rw [take_bl_all] at H
          exact ⟨ret_bool (marksB_iff.2 ⟨H1.out, by rw [length_bl, length_bl]; exact HL.out, H⟩).symm, rfl⟩
    · have hn : ((b.size : Int) != (a.size : Int)) = true := by simp; omega
      rw [show marksB (bl a) (bl b) = false by unfold marksB; rw [h1, decide_eq_false (by rw [length_bl, length_bl]; exact hl)]; rfl]
      have H1 := Lib.hid h1; clear h1 hl
      go_enter Try.func29, Try.ntmps29
      go_wp2_with (go_at_call 40; refine (columnValid_impl _ _ (by assumption)).mono ?_; rintro e w' ⟨rfl, rfl⟩; rw [H1.out])
      go_ret
      exact ⟨rfl, rfl⟩

set_option maxHeartbeats 1000000 in
theorem l1Flags_any (a b : ByteArray) (w : World) (ha : a.size ≤ maxLen) (hb : b.size ≤ maxLen) :
    Calls Try.prog 27 #[.string a, .string b] w fun e w' => e = .returned (.bool (marksB (bl a) (bl b))) ∧ w = w' := by
  have ha' := ha; have hb' := hb
  unfold maxLen at hb'
  go_enter Try.func27, Try.ntmps27
  go_wp2_with fail
  go_loop [5] (fun i => ∃ k : Nat, k ≤ b.size ∧ i = .int .i64 k ∧ Hid (∀ x ∈ (bl b).take k, x.toNat = 48 ∨ x.toNat = 49)) (fun i => b.size - (intOf i).toNat)
  case atStart => exact ⟨0, Nat.zero_le _, rfl, fun c hc => by simp at hc⟩
  case round =>
    obtain ⟨k, hk, rfl, H⟩ := hrel
    by_cases hlt : k < b.size
    · have hat := Lib.hid (bl_at b k hlt)
      by_cases h48 : b[k].toNat = 48
      · have H2 : Hid (∀ x ∈ (bl b).take (k + 1), x.toNat = 48 ∨ x.toNat = 49) := mem_take_snoc hlt H.out (.inl h48)
        have t1 : ((b[k].toNat : Int) != 48) = false := by simp; omega
        clear h48
        go_wp2_with fail
        go_round
        case rel => exact ⟨k + 1, by omega, by go_num, H2⟩
        case measure => simp [intOf] <;> omega
      · have t1 : ((b[k].toNat : Int) != 48) = true := by simp; omega
        by_cases h49 : b[k].toNat = 49
        · have H2 : Hid (∀ x ∈ (bl b).take (k + 1), x.toNat = 48 ∨ x.toNat = 49) := mem_take_snoc hlt H.out (.inr h49)
          have t2 : ((b[k].toNat : Int) != 49) = false := by simp; omega
          clear h48 h49
          go_wp2_with fail
          go_round
          case rel => exact ⟨k + 1, by omega, by go_num, H2⟩
          case measure => simp [intOf] <;> omega
        · have t2 : ((b[k].toNat : Int) != 49) = true := by simp; omega
          have F := Lib.hid (marksB_bad (c := bl a) hat.out (by omega))
          clear h48 h49
          go_wp2_with fail
          go_ret
          exact ⟨ret_bool F.out.symm, rfl⟩
    · obtain rfl : k = b.size := by omega
      have H := H.out
      rw [take_bl_all] at H
      have HM := Lib.hid H; clear H
      cases h1 : colB (bl a)
      · have F := Lib.hid (show marksB (bl a) (bl b) = false by unfold marksB; rw [h1]; rfl)
        have H1 := Lib.hid h1; clear h1
        go_wp2_with (go_at_call 47; refine (columnValid_spec _ _ (by assumption)).mono ?_; rintro e w' ⟨rfl, rfl⟩; rw [H1.out])
        go_ret
        exact ⟨ret_bool F.out.symm, rfl⟩
      · have F := Lib.hid (show marksB (bl a) (bl b) = ((a.size : Int) == (b.size : Int)) by
          rw [Bool.eq_iff_iff, marksB_iff, length_bl, length_bl]
          simp only [h1, true_and, beq_iff_eq]
          constructor
          · intro h; omega
          · intro h; exact ⟨by omega, HM.out⟩)
        have H1 := Lib.hid h1; clear h1
        go_wp2_with (go_at_call 47; refine (columnValid_spec _ _ (by assumption)).mono ?_; rintro e w' ⟨rfl, rfl⟩; rw [H1.out])
        go_ret
        exact ⟨ret_bool F.out.symm, rfl⟩

/-- A string at most as long as a column is no longer than any string may be. -/
theorem col_max {s : ByteArray} (h : colB (bl s) = true) : s.size ≤ maxLen := by
  have := (col_size h).2; unfold maxLen; omega
theorem str_max {l : List UInt8} (h : l.length ≤ 1000000) : (str l).size ≤ maxLen := by
  rw [size_str]; unfold maxLen; omega

/-- The state of CarryAhead's loop: q + 1 places are to come, j are done; the carry. -/
def Adding (w : World) (c u : List UInt8) (cy i : Value) (wr : World) : Prop :=
  (∃ q j x : Nat, q + 1 + j = c.length ∧ i = .int .i64 (q : Int) ∧ cy = .int .i64 (x : Int) ∧ x ≤ 1 ∧ x = lowS c u (q + 1) / 10 ^ j ∧ Blk wr w.heap.size 5 (cB (List.replicate (q + 1) 0 ++ showL (lowS c u (q + 1)) j)) ∧ Below w.heap.size w wr) ∨
  (∃ x : Nat, i = .int .i64 (-1) ∧ cy = .int .i64 (x : Int) ∧ Blk wr w.heap.size 5 (cB (showL (lowS c u 0) c.length)) ∧ Below w.heap.size w wr)
theorem adding_start (w : World) (c u : List UInt8) (m : Nat) (h : c.length = m + 1) (hu : u.length = c.length) :
    Adding w c u (.int .i64 0) (.int .i64 (m : Int)) (w.alloc (.cells (cB (List.replicate (m + 1) 0)) 5)) :=
  .inl ⟨m, 0, 0, by omega, rfl, rfl, by decide, by rw [lowS_top _ _ _ (by omega) (by omega)], by simpa [showL] using Blk.new w _ _, (Below.refl _ _).alloc (Nat.le_refl _) _⟩
theorem adding_step {w wr : World} {c u : List UInt8} {q j x cq uq : Nat} {z : Int} (hq : q + 1 + j = c.length) (hu : u.length = c.length) (hc : q < c.length) (hu2 : q < u.length)
    (hx : x = lowS c u (q + 1) / 10 ^ j) (hcq : c[q].toNat = cq) (huq : u[q].toNat = uq) (hs : z = ((cq - 48 + (uq - 48) + x : Nat) : Int)) (hs1 : z ≤ 19)
    (hb : Blk wr w.heap.size 5 (cB (List.replicate (q + 1) 0 ++ showL (lowS c u (q + 1)) j))) (hw : Below w.heap.size w wr) :
    Adding w c u (.int .i64 (z / 10)) (.int .i64 ((q : Int) - 1)) (wr.setCell ⟨w.heap.size, q, none⟩ (.int .u8 (48 + z % 10))) := by
  have d := low_digit hc hu hq hu2
  subst hcq huq
  obtain ⟨s, es⟩ : ∃ s, s = c[q].toNat - 48 + (u[q].toNat - 48) + x := ⟨_, rfl⟩
  rw [← es] at hs
  rw [← hx, ← es] at d
  subst hs
  have h2 := hb.put q (.int .u8 ((dg s).toNat : Int))
  rw [cB_set, set_back, ← d.1, ← d.2] at h2
  have hw2 := hw.setCell (p := ⟨w.heap.size, q, none⟩) (Nat.le_refl _) (.int .u8 (48 + (s : Int) % 10))
  have e : (48 + (s : Int) % 10) = ((dg s).toNat : Int) := by rw [dg_nat]; omega
  rw [d.1, ← e] at h2
  cases q with
  | zero =>
    refine .inr ⟨s / 10, rfl, by congr 1, ?_, hw2⟩
    rw [show c.length = j + 1 by omega]
    exact h2
  | succ q =>
    refine .inl ⟨q, j + 1, s / 10, by omega, by congr 1; omega, by congr 1, by omega, ?_, h2, hw2⟩
    rw [← d.1, div_step]

set_option maxHeartbeats 2000000 in
theorem ahead_impl (a b : ByteArray) (w : World) (ha : a.size ≤ maxLen) (_hb : b.size ≤ maxLen) :
    Calls Try.prog 17 #[.string a, .string b] w fun e w' => e = .returned (.tuple #[.string (str (aheadL (bl a) (bl b))), .bool (marksB (bl a) (bl b))]) ∧ Below w.heap.size w w' := by
  cases h : marksB (bl a) (bl b)
  · rw [aheadL_no h]
    have H := Lib.hid h; clear h
    go_enter Try.func17, Try.ntmps17
    go_wp2_with (go_at_call 29; refine (marksFit_any _ _ _ ha).mono ?_; rintro e w' ⟨rfl, rfl⟩; rw [H.out])
    go_ret2
    exact ⟨rfl, Below.refl _ _⟩
  · rw [aheadL_yes h]
    have h1 := marksB_iff.1 h
    have u := upL_col h
    rw [sumL_show u.2.2]
    have hz := col_size h1.1
    have hba : b.size = a.size := by rw [← length_bl, ← length_bl]; exact h1.2.1
    obtain ⟨m, hm⟩ : ∃ m, a.size = m + 1 := ⟨a.size - 1, by omega⟩
    have hmk := make_bytes a.size (by omega) (a.size : Int) rfl
    have H := Lib.hid h; have C := Lib.hid h1; have U := Lib.hid u; have HM := Lib.hid hm; have HBA := Lib.hid hba
    have ST := Lib.hid (adding_start w (bl a) (upL (bl b)) m (by rw [length_bl]; exact hm) u.2.1)
    clear h h1 u hm hba
    have hz1 : 1 ≤ a.size := hz.1
    have hbz : b.size ≤ 12 := by have := HBA.out; omega
    go_enter Try.func17, Try.ntmps17
    go_wp2_with (go_at_call 29; refine (marksFit_any _ _ _ ha).mono ?_; rintro e w' ⟨rfl, rfl⟩; rw [H.out])
    go_loopw [7, 8] (fun cy i wr => Adding w (bl a) (upL (bl b)) cy i wr) (fun _ i _ => (intOf i + 1).toNat)
    case atStart =>
      have h := ST.out
      have hm := HM.out
      rw [← hm] at h
      rw [show (a.size : Int) - 1 = (m : Int) by omega]
      exact h
    case round =>
      rcases hrel with ⟨q, j, x, hq, rfl, rfl, hx1, hx, hblk, hw⟩ | ⟨x, rfl, rfl, hblk, hw⟩
      · have hqa : q < a.size := by rw [← length_bl]; omega
        have hqu : q < (upL (bl b)).length := by rw [U.out.2.1, length_bl]; exact hqa
        have d := col_at C.out.1 q hqa
        have hold := cB_cell hblk (i := q) (by simp; omega)
        have hfree := hblk.free q
        by_cases hlast : q + 1 < a.size
        · have hqb : q + 1 < b.size := by have := HBA.out; omega
          have hmk' := C.out.2.2 _ (mem_at (bl_at b (q + 1) hqb))
          have eu : (upL (bl b))[q] = b[q + 1] := by
            rw [upL_at (by rw [length_bl]; exact hqb)]; rfl
          have hlast' : (q : Int) + 1 < (a.size : Int) := by omega
          by_cases h49 : b[q + 1].toNat = 49
          · have t1 : ((b[q + 1].toNat : Int) == 49) = true := by simp; omega
            have S := Lib.hid (adding_step (z := (a[q].toNat : Int) - 48 + (x : Int) + 1) hq U.out.2.1 (by rw [length_bl]; exact hqa) hqu hx (cq := a[q].toNat) rfl (by rw [eu, h49]) (by omega) (by omega) hblk hw)
            clear hq hx hblk hw eu h49 hmk'
            go_wp2
            go_roundw
            case rel => exact S.out
            case measure => simp [intOf] <;> omega
          · have t1 : ((b[q + 1].toNat : Int) == 49) = false := by simp; omega
            have S := Lib.hid (adding_step (z := (a[q].toNat : Int) - 48 + (x : Int)) hq U.out.2.1 (by rw [length_bl]; exact hqa) hqu hx (cq := a[q].toNat) (uq := 48) rfl (by rw [eu]; omega) (by omega) (by omega) hblk hw)
            clear hq hx hblk hw eu h49 hmk'
            go_wp2
            go_roundw
            case rel => exact S.out
            case measure => simp [intOf] <;> omega
        · have eu : (upL (bl b))[q] = 48 := upL_last (by rw [length_bl]; have := HBA.out; omega) hqu
          have hlast' : ¬ (q : Int) + 1 < (a.size : Int) := by omega
          have S := Lib.hid (adding_step (z := (a[q].toNat : Int) - 48 + (x : Int)) hq U.out.2.1 (by rw [length_bl]; exact hqa) hqu hx (cq := a[q].toNat) (uq := 48) rfl (by rw [eu]; rfl) (by omega) (by omega) hblk hw)
          clear hq hx hblk hw eu
          go_wp2
          go_roundw
          case rel => exact S.out
          case measure => simp [intOf] <;> omega
      · have hc := string_of hblk a.size a.size (by rw [showL_length, length_bl])
        have V := Lib.hid hw; clear hblk hw
        go_wp2
        go_ret2
        exact ⟨rfl, V.out⟩
end Go.Proofs.Ytghgienpkffcbaa
