/- The walks of both texts of FormatSigned and ParseSigned, and of what they call. -/
import Derived.Test.YthhkpghecekoeaaDoorColC
import Derived.Test.YthhkpghecekoeaaDoorNumPlain
import Derived.Test.YthhkpghecekoeaaDoorShelf5
import Derived.Lib.ItoaLen
import Derived.Lib.AppendIntMem
import Derived.Lib.AtoiErrMem
namespace Go.Proofs.YthhkpghecekoeaaDoor
open Go.RowKit

/-- The table of powers of ten, and the error, where the program's text lays them. -/
def TabAt (w : World) : Prop := ∃ t f, w.heap[2]? = some (.cells (Lib.pow10Tab.map fun z => Value.int .u64 z).toArray t f)
def ErrAt (w : World) : Prop := ∃ tp p t f, w.heap[0]? = some (.cells #[.iface tp p] t f)
theorem heap_lt {w : World} {k : Nat} {o : Obj} (h : w.heap[k]? = some o) : k < w.heap.size := by
  apply Classical.byContradiction
  intro hn
  rw [Array.getElem?_eq_none (by omega)] at h
  cases h
theorem TabAt.keep {w w' : World} (h : TabAt w) (hb : Below w.heap.size w w') : TabAt w' := by
  obtain ⟨t, f, e⟩ := h
  exact ⟨t, f, (hb.block 2 (heap_lt e)).trans e⟩
theorem ErrAt.keep {w w' : World} (h : ErrAt w) (hb : Below w.heap.size w w') : ErrAt w' := by
  obtain ⟨tp, p, t, f, e⟩ := h
  exact ⟨tp, p, t, f, (hb.block 0 (heap_lt e)).trans e⟩
theorem TabAt.is {w : World} (h : TabAt w) (nm : String) (hn : Tryd.prog.globalNamed nm = some 2) : Lib.TabIs Tryd.prog w nm .u64 Lib.pow10Tab := by
  obtain ⟨t, f, e⟩ := h
  unfold Lib.TabIs World.var?
  rw [hn]
  simp [e]
theorem ErrAt.var {w : World} (h : ErrAt w) (nm : String) (hn : Tryd.prog.globalNamed nm = some 0) : ∃ tp p, w.var? Tryd.prog nm = some #[.iface tp p] := by
  obtain ⟨tp, p, t, f, e⟩ := h
  refine ⟨tp, p, ?_⟩
  unfold World.var?
  rw [hn]
  simp [e]

theorem str_app (a b : List UInt8) : str a ++ str b = str (a ++ b) := by
  apply bl_inj
  unfold bl
  rw [ByteArray.data_append, Array.toList_append]
  simp [str]
/-- strconv.Itoa. -/
theorem itoa_c (n : Int) (w : World) (h0 : -9223372036854775808 ≤ n) (h1 : n ≤ 9223372036854775807) (ht : TabAt w) :
    Calls Tryd.prog 22 #[.int .i64 n] w fun e w' => e = .returned (.string (str (Lib.itoa n))) ∧ Below w.heap.size w w' :=
  (Any.strconv_Itoa Tryd.laysM171 n h0 h1 w (ht.is _ (by kernel_rfl))).mono fun e w' ⟨he, k, os, hw⟩ => ⟨he, by rw [hw]; exact Lib.below_grow _ _ (Nat.le_refl _) _ _⟩
/-- strconv.Atoi. -/
theorem atoi_yes (s : ByteArray) (n : Int) (w : World) (hs : s.size ≤ 18) (h : Lib.atoi (bl s) = some n) :
    Calls Tryd.prog 32 #[.string s] w fun e w' => e = .returned (.tuple #[.int .i64 n, .nilIface]) ∧ Below w.heap.size w w' := by
  have ha : Lib.atoiAll s.data.toList = .ok n := by rw [Lib.atoiAll_short _ (by rw [← Lib.size_eq]; exact hs), show Lib.atoi s.data.toList = some n from h]; rfl
  refine (Tryd.strconv_Atoi_ok s (by omega) n ha w).mono fun e w' ⟨he, hw⟩ => ⟨he, ?_⟩
  rcases hw with rfl | ⟨t, rfl⟩
  · exact Below.refl _ _
  · exact Lib.bytesWorld_below _ _ _
theorem atoi_no (s : ByteArray) (w : World) (hs : s.size ≤ 18) (h : Lib.atoi (bl s) = none) (hE : ErrAt w) :
    Calls Tryd.prog 32 #[.string s] w fun e w' => ∃ N, e = .returned (.tuple #[.int .i64 0, .iface (Tryd.laysC172_ren.t 168) (.pointer (some ⟨N, 0, none⟩))]) ∧ Below w.heap.size w w' := by
  have ha : Lib.atoiAll s.data.toList = Lib.NumEnd.ofOption none := by rw [Lib.atoiAll_short _ (by rw [← Lib.size_eq]; exact hs), show Lib.atoi s.data.toList = none from h]
  obtain ⟨tp, p, hv⟩ := hE.var _ (by kernel_rfl)
  exact (Any.strconv_Atoi_syntax_var Tryd.laysC172 s (by omega) ha tp p w hv).mono fun e w' ⟨N, he, _, _, hw⟩ => ⟨N, he, hw⟩
theorem atoi_bounds (s : ByteArray) (n : Int) (hs : s.size ≤ 18) (h : Lib.atoi (bl s) = some n) : -9223372036854775808 ≤ n ∧ n ≤ 9223372036854775807 :=
  Lib.atoiAll_bounds (l := s.data.toList) (by rw [Lib.atoiAll_short _ (by rw [← Lib.size_eq]; exact hs), show Lib.atoi s.data.toList = some n from h]; rfl)

theorem ret_s {a b : ByteArray} (h : a = b) : Ending.returned (.string a) = .returned (.string b) := by rw [h]
theorem ret_str45 (l : List UInt8) : Ending.returned (.string (⟨#[45]⟩ ++ str l)) = .returned (.string (str (45 :: l))) := by
  have e : (⟨#[45]⟩ : ByteArray) ++ str l = str (45 :: l) := str_app [45] l
  rw [e]
theorem dd_length (v : Nat) (h : v ≤ 1000000000000000000) : (Lib.decDigits v).length ≤ 21 := by
  have := Lib.itoa_length_le (v : Int) (by omega) (by omega)
  unfold Lib.itoa at this
  rw [if_neg (by omega), Int.toNat_natCast] at this
  exact this

set_option maxHeartbeats 1000000 in
theorem l9Dec_pos (v : Nat) (w : World) (hv : v ≤ 1000000000000000000) :
    Calls Tryd.prog 20 #[.int .i64 (v : Int)] w fun e w' => e = .returned (.string (str (Lib.decDigits v))) ∧ Below w.heap.size w w' := by
  have hlen := dd_length v hv
  have LEN := Lib.hid hlen; clear hlen
  go_enter Tryd.func20, Tryd.ntmps20
  go_wp2_with fail
  go_loopw [3, 0] (fun o n wr => ∃ (x : Nat) (r : List UInt8), n = .int .i64 (x : Int) ∧ o = .string (str r) ∧ x ≤ v ∧ Hid (Lib.decDigits v = Lib.decDigits x ++ r) ∧ Hid (Below w.heap.size w wr)) (fun _ n _ => (intOf n).toNat)
  case atStart => exact ⟨v, [], rfl, rfl, Nat.le_refl _, Lib.hid (by rw [List.append_nil]), Lib.hid (Below.refl _ _)⟩
  case round =>
    obtain ⟨x, r, rfl, rfl, hx, D, HV⟩ := hrel
    have hr : (str r).size ≤ 21 := by
      have h1 := LEN.out
      rw [D.out, List.length_append] at h1
      rw [size_str]; omega
    by_cases h9 : 9 < x
    · have h9' : (9 : Int) < (x : Int) := by omega
      have hb := byte_nat (k := x % 10) (by omega)
      have hcv := string_of (W := wr.alloc (.cells #[.int .u8 (48 + (x : Int) % 10)] 5)) (g := wr.heap.size) (l := [UInt8.ofNat (48 + x % 10)])
        (by have h := Blk.new wr 5 #[.int .u8 (48 + (x : Int) % 10)]
            have e : cB [UInt8.ofNat (48 + x % 10)] = #[.int .u8 (48 + (x : Int) % 10)] := by
              show #[Value.int .u8 (((UInt8.ofNat (48 + x % 10)).toNat : Nat) : Int)] = _
              rw [hb]; rfl
            rw [e]; exact h) 1 1 rfl
      have D2 : Hid (Lib.decDigits v = Lib.decDigits (x / 10) ++ ([UInt8.ofNat (48 + x % 10)] ++ r)) := Lib.hid (by rw [D.out, dd_big (by omega), List.append_assoc])
      have V2 := Lib.hid (HV.out.alloc HV.out.size (.cells #[.int .u8 (48 + (x : Int) % 10)] 5))
      have hsz : (str [UInt8.ofNat (48 + x % 10)]).size ≤ 1 := by rw [size_str]; exact Nat.le_refl _
      clear hb
      generalize UInt8.ofNat (48 + x % 10) = ch at *
      go_wp2_with fail
      go_roundw
      case rel => exact ⟨x / 10, _, by go_num, by rw [str_app], by omega, D2, V2⟩
      case measure => simp [intOf] <;> omega
    · have h9' : ¬ (9 : Int) < (x : Int) := by omega
      have hb := byte_nat (k := x) (by omega)
      have hcv := string_of (W := wr.alloc (.cells #[.int .u8 (48 + (x : Int))] 5)) (g := wr.heap.size) (l := [UInt8.ofNat (48 + x)])
        (by have h := Blk.new wr 5 #[.int .u8 (48 + (x : Int))]
            have e : cB [UInt8.ofNat (48 + x)] = #[.int .u8 (48 + (x : Int))] := by
              show #[Value.int .u8 (((UInt8.ofNat (48 + x)).toNat : Nat) : Int)] = _
              rw [hb]; rfl
            rw [e]; exact h) 1 1 rfl
      have D2 : Hid (Lib.decDigits v = [UInt8.ofNat (48 + x)] ++ r) := Lib.hid (by rw [D.out, dd_small (by omega)])
      have V2 := Lib.hid (HV.out.alloc HV.out.size (.cells #[.int .u8 (48 + (x : Int))] 5))
      have hsz : (str [UInt8.ofNat (48 + x)]).size ≤ 1 := by rw [size_str]; exact Nat.le_refl _
      clear hb
      generalize UInt8.ofNat (48 + x) = ch at *
      go_wp2_with fail
      go_ret
      exact ⟨ret_s (by rw [D2.out, ← str_app]), V2.out⟩

set_option maxHeartbeats 1000000 in
theorem l9Dec_any (n : Int) (w : World) (h0 : -1000000000000000000 ≤ n) (h1 : n ≤ 1000000000000000000) :
    Calls Tryd.prog 20 #[.int .i64 n] w fun e w' => e = .returned (.string (str (Lib.itoa n))) ∧ Below w.heap.size w w' := by
  by_cases hn : 0 ≤ n
  · obtain ⟨v, rfl⟩ := Int.eq_ofNat_of_zero_le hn
    have e : Lib.itoa (v : Int) = Lib.decDigits v := by unfold Lib.itoa; rw [if_neg (by omega), Int.toNat_natCast]
    rw [e]
    exact l9Dec_pos v w (by omega)
  · obtain ⟨v, hv⟩ := Int.eq_ofNat_of_zero_le (show 0 ≤ -n by omega)
    have e : Lib.itoa n = 45 :: Lib.decDigits v := by unfold Lib.itoa; rw [if_pos (by omega), show n.natAbs = v by omega]
    rw [e]
    have C := Lib.hid (fun W => l9Dec_pos v W (by omega))
    have hsz : (str (Lib.decDigits v)).size ≤ 21 := by rw [size_str]; exact dd_length v (by omega)
    have V := Lib.hid hv
    clear hv e
    go_enter Tryd.func20, Tryd.ntmps20
    go_wp2_with fail
    rw [V.out]
    refine (C.out _).mono ?_
    rintro e w' ⟨rfl, hw⟩
    have B := Lib.hid hw; clear hw
    go_wp2_with fail
    go_ret
    exact ⟨ret_str45 _, B.out⟩

/-- What follows the sign. -/
theorem mag_bad {neg : Bool} {d : List UInt8} {k : Nat} {c : UInt8} (hk : d[k]? = some c) (h : ¬ (48 ≤ c.toNat ∧ c.toNat ≤ 57)) : magB neg d = false := by
  rw [Bool.eq_false_iff]; intro hb
  exact h ((magB_iff.1 hb).2.2 c (List.mem_of_getElem? hk))
theorem mag_len {neg : Bool} {d : List UInt8} (h : d.length < 1 ∨ 17 < d.length) : magB neg d = false := by
  rw [Bool.eq_false_iff]; intro hb
  have := (magB_iff.1 hb).1
  omega
theorem mag_zero {neg : Bool} {d : List UInt8} (h : magB.gd0 d = 48) (h2 : 1 < d.length ∨ neg = true) : magB neg d = false := by
  rw [Bool.eq_false_iff]; intro hb
  exact (magB_iff.1 hb).2.1 ⟨h, h2⟩
def NoZero (neg : Bool) (d : List UInt8) : Prop := ¬ (magB.gd0 d = 48 ∧ (1 < d.length ∨ neg = true))
theorem gd0_str (t : ByteArray) (h : 0 < t.size) : magB.gd0 (bl t) = t[0].toNat := by
  have e : (bl t)[0]? = some t[0] := bl_at t 0 h
  cases hb : bl t with
  | nil => rw [hb] at e; cases e
  | cons c r =>
    rw [hb] at e
    simp at e
    show c.toNat = _
    rw [e]
theorem val_17 {l : List UInt8} (h : digs l) (hl : l.length ≤ 17) : 0 ≤ val l ∧ val l ≤ 100000000000000000 := by
  have hb := val_bd l h
  have e : p10 l.length ≤ p10 17 := p10_mono hl
  have e2 : p10 17 = 100000000000000000 := by decide
  unfold p10 at e e2
  omega
theorem ret_num {a b : Int} {x y : Bool} (h1 : a = b) (h2 : x = y) : Ending.returned (.tuple #[.int .i64 a, .bool x]) = .returned (.tuple #[.int .i64 b, .bool y]) := by rw [h1, h2]

set_option maxHeartbeats 2000000 in
theorem l9Num_min (s : ByteArray) (w : World) (hs : s.size ≤ maxLen) (hn : minB (bl s) = true) :
    Calls Tryd.prog 16 #[.string s] w fun e w' => e = .returned (.tuple #[.int .i64 (numV (bl s)), .bool (numB (bl s))]) ∧ w = w' := by
  unfold maxLen at hs
  have h0 : 0 < s.size := by
    rw [← length_bl]
    cases hb : bl s with
    | nil => rw [hb] at hn; cases hn
    | cons c r => simp
  have h45 : s[0].toNat = 45 := by
    have e : (bl s)[0]? = some s[0] := bl_at s 0 h0
    cases hb : bl s with
    | nil => rw [hb] at hn; cases hn
    | cons c r =>
      rw [hb] at e hn
      simp at e
      rw [show minB (c :: r) = (c == 45) from rfl, beq_iff_eq] at hn
      rw [← e, hn]; rfl
  have h45b : ((s[0].toNat : Int) == 45) = true := by simp [h45]
  have h0' : (0 : Int) < (s.size : Int) := by omega
  have h1s : 1 ≤ s.size := h0
  obtain ⟨t, ht⟩ : ∃ t, s.extract 1 s.size = t := ⟨_, rfl⟩
  have hbt : bl t = (bl s).drop 1 := by
    rw [← ht]
    unfold bl
    rw [ByteArray.data_extract, Array.toList_extract]
    simp [List.extract, List.take_of_length_le]
  have hts : t.size ≤ s.size := by rw [← length_bl, hbt, List.length_drop, length_bl]; omega
  have NO : Hid (magB true (bl t) = false → numV (bl s) = 0 ∧ numB (bl s) = false) := Lib.hid fun h => by
    have e : numB (bl s) = false := by unfold numB; rw [if_pos hn, ← hbt]; exact h
    exact ⟨numV_no e, e⟩
  have YES : Hid (magB true (bl t) = true → numV (bl s) = -val (bl t) ∧ numB (bl s) = true) := Lib.hid fun h => by
    have e : numB (bl s) = true := by unfold numB; rw [if_pos hn, ← hbt]; exact h
    exact ⟨by unfold numV; rw [if_pos e, if_pos hn, ← hbt], e⟩
  clear hn h45 hbt
  by_cases t0 : 0 < t.size
  rotate_left
  · have F := Lib.hid (NO.out (mag_len (.inl (by rw [length_bl]; omega))))
    have tz : t.size = 0 := by omega
    have tzb : ((t.size : Int) == 0) = true := by simp [tz]
    clear tz
    go_enter Tryd.func16, Tryd.ntmps16
    go_wp2_with fail
    go_ret2
    exact ⟨ret_num F.out.1.symm F.out.2.symm, rfl⟩
  have tzb : ((t.size : Int) == 0) = false := beq_eq_false_iff_ne.2 (by omega)
  by_cases t17 : 17 < t.size
  · have F := Lib.hid (NO.out (mag_len (.inr (by rw [length_bl]; omega))))
    have t17' : (17 : Int) < (t.size : Int) := by omega
    go_enter Tryd.func16, Tryd.ntmps16
    go_wp2_with fail
    go_ret2
    exact ⟨ret_num F.out.1.symm F.out.2.symm, rfl⟩
  have t17' : ¬ (17 : Int) < (t.size : Int) := by omega
  have hg := gd0_str t t0
  by_cases h48 : t[0].toNat = 48
  · have F := Lib.hid (NO.out (mag_zero (by rw [hg]; exact h48) (.inr rfl)))
    have hb48 : ((t[0].toNat : Int) == 48) = true := by simp [h48]
    clear hg h48
    by_cases t1 : 1 < t.size
    · have t1' : (1 : Int) < (t.size : Int) := by omega
      go_enter Tryd.func16, Tryd.ntmps16
      go_wp2_with fail
      go_ret2
      exact ⟨ret_num F.out.1.symm F.out.2.symm, rfl⟩
    · have t1' : ¬ (1 : Int) < (t.size : Int) := by omega
      go_enter Tryd.func16, Tryd.ntmps16
      go_wp2_with fail
      go_ret2
      exact ⟨ret_num F.out.1.symm F.out.2.symm, rfl⟩
  have hb48 : ((t[0].toNat : Int) == 48) = false := by simp; omega
  have HZ : Hid (NoZero true (bl t)) := Lib.hid fun h => h48 (by rw [← hg]; exact h.1)
  clear hg h48
  go_enter Tryd.func16, Tryd.ntmps16
  go_wp2_with fail
  go_loop [5, 6] (fun n i => ∃ k : Nat, k ≤ t.size ∧ i = .int .i64 (k : Int) ∧ n = .int .i64 (val ((bl t).take k)) ∧ Hid (digs ((bl t).take k))) (fun _ i => t.size - (intOf i).toNat)
  case atStart => exact ⟨0, Nat.zero_le _, rfl, rfl, fun c hc => by simp at hc⟩
  case round =>
    obtain ⟨k, hk, rfl, rfl, H⟩ := hrel
    have hv := val_17 H.out (by rw [List.length_take, length_bl]; omega)
    by_cases hlt : k < t.size
    · have hat := Lib.hid (bl_at t k hlt)
      have HV := Lib.hid (val_take t k hlt)
      by_cases hlo : 48 ≤ t[k].toNat
      · by_cases hhi : t[k].toNat ≤ 57
        · have H2 : Hid (digs ((bl t).take (k + 1))) := mem_take_snoc hlt H.out ⟨hlo, hhi⟩
          go_wp2_with fail
          go_round
          case rel => exact ⟨k + 1, by omega, by go_num, by rw [HV.out], H2⟩
          case measure => simp [intOf] <;> omega
        · have F := Lib.hid (NO.out (mag_bad hat.out (by omega)))
          go_wp2_with fail
          go_ret2
          exact ⟨ret_num F.out.1.symm F.out.2.symm, rfl⟩
      · have F := Lib.hid (NO.out (mag_bad hat.out (by omega)))
        go_wp2_with fail
        go_ret2
        exact ⟨ret_num F.out.1.symm F.out.2.symm, rfl⟩
    · obtain rfl : k = t.size := by omega
      have hd := H.out
      rw [take_bl_all] at hd
      have F := Lib.hid (YES.out (magB_iff.2 ⟨by rw [length_bl]; omega, HZ.out, hd⟩))
      go_wp2_with fail
      go_ret2
      exact ⟨ret_num (by rw [F.out.1, take_bl_all]) F.out.2.symm, rfl⟩

set_option maxHeartbeats 2000000 in
theorem l9Num_plain (t : ByteArray) (w : World) (hs : t.size ≤ maxLen) (hn : ¬ minB (bl t) = true) :
    Calls Tryd.prog 16 #[.string t] w fun e w' => e = .returned (.tuple #[.int .i64 (numV (bl t)), .bool (numB (bl t))]) ∧ w = w' := by
  unfold maxLen at hs
  have H45 : Hid (∀ h : 0 < t.size, ((t[0].toNat : Int) == 45) = false) := Lib.hid fun h => by
    have e : (bl t)[0]? = some t[0] := bl_at t 0 h
    cases hb : bl t with
    | nil => rw [hb] at e; cases e
    | cons c r =>
      rw [hb] at e hn
      simp at e
      rw [show minB (c :: r) = (c == 45) from rfl, beq_iff_eq] at hn
      rw [← e]
      have : c.toNat ≠ 45 := fun hh => hn (UInt8.toNat_inj.1 hh)
      simp; omega
  have NO : Hid (magB false (bl t) = false → numV (bl t) = 0 ∧ numB (bl t) = false) := Lib.hid fun h => by
    have e : numB (bl t) = false := by unfold numB; rw [if_neg hn]; exact h
    exact ⟨numV_no e, e⟩
  have YES : Hid (magB false (bl t) = true → numV (bl t) = val (bl t) ∧ numB (bl t) = true) := Lib.hid fun h => by
    have e : numB (bl t) = true := by unfold numB; rw [if_neg hn]; exact h
    exact ⟨by unfold numV; rw [if_pos e, if_neg hn], e⟩
  clear hn
  by_cases t0 : 0 < t.size
  rotate_left
  · have F := Lib.hid (NO.out (mag_len (.inl (by rw [length_bl]; omega))))
    have tz : t.size = 0 := by omega
    have tzb : ((t.size : Int) == 0) = true := by simp [tz]
    clear tz
    go_enter Tryd.func16, Tryd.ntmps16
    go_wp2_with fail
    go_ret2
    exact ⟨ret_num F.out.1.symm F.out.2.symm, rfl⟩
  have tzb : ((t.size : Int) == 0) = false := beq_eq_false_iff_ne.2 (by omega)
  have h45 := H45.out t0
  have t0' : (0 : Int) < (t.size : Int) := by omega
  by_cases t17 : 17 < t.size
  · have F := Lib.hid (NO.out (mag_len (.inr (by rw [length_bl]; omega))))
    have t17' : (17 : Int) < (t.size : Int) := by omega
    go_enter Tryd.func16, Tryd.ntmps16
    go_wp2_with fail
    go_ret2
    exact ⟨ret_num F.out.1.symm F.out.2.symm, rfl⟩
  have t17' : ¬ (17 : Int) < (t.size : Int) := by omega
  have hg := gd0_str t t0
  by_cases h48 : t[0].toNat = 48
  · have hb48 : ((t[0].toNat : Int) == 48) = true := by simp [h48]
    by_cases t1 : 1 < t.size
    · have F := Lib.hid (NO.out (mag_zero (by rw [hg]; exact h48) (.inl (by rw [length_bl]; exact t1))))
      have t1' : (1 : Int) < (t.size : Int) := by omega
      clear hg h48
      go_enter Tryd.func16, Tryd.ntmps16
      go_wp2_with fail
      go_ret2
      exact ⟨ret_num F.out.1.symm F.out.2.symm, rfl⟩
    · have t1' : ¬ (1 : Int) < (t.size : Int) := by omega
      have HZ : Hid (NoZero false (bl t)) := Lib.hid fun h => by
        rcases h.2 with h | h
        · rw [length_bl] at h; exact t1 h
        · cases h
      clear hg h48
      go_enter Tryd.func16, Tryd.ntmps16
      go_wp2_with fail
      go_loop [5, 6] (fun n i => ∃ k : Nat, k ≤ t.size ∧ i = .int .i64 (k : Int) ∧ n = .int .i64 (val ((bl t).take k)) ∧ Hid (digs ((bl t).take k))) (fun _ i => t.size - (intOf i).toNat)
      case atStart => exact ⟨0, Nat.zero_le _, rfl, rfl, fun c hc => by simp at hc⟩
      case round =>
        obtain ⟨k, hk, rfl, rfl, H⟩ := hrel
        have hv := val_17 H.out (by rw [List.length_take, length_bl]; omega)
        by_cases hlt : k < t.size
        · have hat := Lib.hid (bl_at t k hlt)
          have HV := Lib.hid (val_take t k hlt)
          by_cases hlo : 48 ≤ t[k].toNat
          · by_cases hhi : t[k].toNat ≤ 57
            · have H2 : Hid (digs ((bl t).take (k + 1))) := mem_take_snoc hlt H.out ⟨hlo, hhi⟩
              go_wp2_with fail
              go_round
              case rel => exact ⟨k + 1, by omega, by go_num, by rw [HV.out], H2⟩
              case measure => simp [intOf] <;> omega
            · have F := Lib.hid (NO.out (mag_bad hat.out (by omega)))
              go_wp2_with fail
              go_ret2
              exact ⟨ret_num F.out.1.symm F.out.2.symm, rfl⟩
          · have F := Lib.hid (NO.out (mag_bad hat.out (by omega)))
            go_wp2_with fail
            go_ret2
            exact ⟨ret_num F.out.1.symm F.out.2.symm, rfl⟩
        · obtain rfl : k = t.size := by omega
          have hd := H.out
          rw [take_bl_all] at hd
          have F := Lib.hid (YES.out (magB_iff.2 ⟨by rw [length_bl]; omega, HZ.out, hd⟩))
          go_wp2_with fail
          go_ret2
          exact ⟨ret_num (by rw [F.out.1, take_bl_all]) F.out.2.symm, rfl⟩
  · have hb48 : ((t[0].toNat : Int) == 48) = false := by simp; omega
    have HZ : Hid (NoZero false (bl t)) := Lib.hid fun h => h48 (by rw [← hg]; exact h.1)
    clear hg h48
    go_enter Tryd.func16, Tryd.ntmps16
    go_wp2_with fail
    go_loop [5, 6] (fun n i => ∃ k : Nat, k ≤ t.size ∧ i = .int .i64 (k : Int) ∧ n = .int .i64 (val ((bl t).take k)) ∧ Hid (digs ((bl t).take k))) (fun _ i => t.size - (intOf i).toNat)
    case atStart => exact ⟨0, Nat.zero_le _, rfl, rfl, fun c hc => by simp at hc⟩
    case round =>
      obtain ⟨k, hk, rfl, rfl, H⟩ := hrel
      have hv := val_17 H.out (by rw [List.length_take, length_bl]; omega)
      by_cases hlt : k < t.size
      · have hat := Lib.hid (bl_at t k hlt)
        have HV := Lib.hid (val_take t k hlt)
        by_cases hlo : 48 ≤ t[k].toNat
        · by_cases hhi : t[k].toNat ≤ 57
          · have H2 : Hid (digs ((bl t).take (k + 1))) := mem_take_snoc hlt H.out ⟨hlo, hhi⟩
            go_wp2_with fail
            go_round
            case rel => exact ⟨k + 1, by omega, by go_num, by rw [HV.out], H2⟩
            case measure => simp [intOf] <;> omega
          · have F := Lib.hid (NO.out (mag_bad hat.out (by omega)))
            go_wp2_with fail
            go_ret2
            exact ⟨ret_num F.out.1.symm F.out.2.symm, rfl⟩
        · have F := Lib.hid (NO.out (mag_bad hat.out (by omega)))
          go_wp2_with fail
          go_ret2
          exact ⟨ret_num F.out.1.symm F.out.2.symm, rfl⟩
      · obtain rfl : k = t.size := by omega
        have hd := H.out
        rw [take_bl_all] at hd
        have F := Lib.hid (YES.out (magB_iff.2 ⟨by rw [length_bl]; omega, HZ.out, hd⟩))
        go_wp2_with fail
        go_ret2
        exact ⟨ret_num (by rw [F.out.1, take_bl_all]) F.out.2.symm, rfl⟩

theorem l9Num_any (s : ByteArray) (w : World) (hs : s.size ≤ maxLen) :
    Calls Tryd.prog 16 #[.string s] w fun e w' => e = .returned (.tuple #[.int .i64 (numV (bl s)), .bool (numB (bl s))]) ∧ w = w' := by
  by_cases hn : minB (bl s) = true
  · exact l9Num_min s w hs hn
  · exact l9Num_plain s w hs hn
end Go.Proofs.YthhkpghecekoeaaDoor
