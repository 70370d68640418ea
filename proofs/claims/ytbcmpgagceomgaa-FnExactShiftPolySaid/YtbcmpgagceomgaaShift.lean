/- The walks of both texts of ShiftPoly. -/
import Derived.Test.YtbcmpgagceomgaaPower
import Derived.Test.YtbcmpgagceomgaaValues
import Derived.Test.YtbcmpgagceomgaaPascalPlain
namespace Go.Proofs.Ytbcmpgagceomgaa
open Go.RowKit

theorem nextD_vals (p : List Int) (z : Int) (m : Nat) : nextD (valsL p z (m + 1)) = valsL (p.drop 1) z m := by
  apply List.ext_getElem
  · rw [nextD_length, valsL_length, valsL_length]; rfl
  · intro i h1 h2
    have hm := valsL_length (p.drop 1) z m
    rw [nextD_at h1 (by rw [valsL_length]; omega), valsL_at, valsL_at, valsL_at, ← evZ_step, show z + ((i + 1 : Nat) : Int) = z + (i : Int) + 1 by omega]
/-- The values of what is left of a polynomial after its first k coefficients. -/
def shL (p : List Int) (z : Int) (m : Nat) : List Int := (List.range m).map fun k => evZ (p.drop k) z
theorem shL_length (p : List Int) (z : Int) (m : Nat) : (shL p z m).length = m := by simp [shL]
theorem shL_at {p : List Int} {z : Int} {m j : Nat} (h : j < (shL p z m).length) : (shL p z m)[j] = evZ (p.drop j) z := by simp [shL]
theorem firsts_vals (p : List Int) (z : Int) (m : Nat) : firsts (valsL p z m) = shL p z m := by
  induction m generalizing p with
  | zero => rfl
  | succ m ih =>
    have hl : 0 < (valsL p z (m + 1)).length := by rw [valsL_length]; omega
    rw [firsts_cons hl, nextD_vals, ih, valsL_at hl]
    unfold shL
    rw [List.range_succ_eq_map, List.map_cons, List.map_map]
    congr 1
    · congr 1; omega
    · apply List.map_congr_left
      intro k _
      show evZ ((p.drop 1).drop k) z = evZ (p.drop (k + 1)) z
      rw [List.drop_drop, Nat.add_comm]
def shW (p : List Int) (z : Int) : List Int := shL p z p.length
theorem shW_firsts (p : List Int) (z : Int) : firsts (valsL p z p.length) = shW p z := firsts_vals p z p.length
theorem shW_length (p : List Int) (z : Int) : (shW p z).length = p.length := shL_length p z _
theorem valsL_bd {p : List Int} {z : Int} {m : Nat} (hp : ∀ x ∈ p, -100000 ≤ x ∧ x ≤ 100000) (h7 : p.length ≤ 7) (m7 : m ≤ 7) (z1 : -200 ≤ z) (z2 : z ≤ 200) : ∀ x ∈ valsL p z m, -88270000000000000 ≤ x ∧ x ≤ 88270000000000000 := by
  intro x hx
  obtain ⟨j, hj, rfl⟩ := List.getElem_of_mem hx
  rw [valsL_at hj]
  have := valsL_length p z m
  exact evT_small hp (by omega) (by omega) h7 p.length (Nat.le_refl _)
/-- What ShiftPoly returns. -/
def shB (p : List Int) (z : Int) : Bool := (polyB p && inB z (-200) 200) && polyB (shW p z)
def shP (p : List Int) (z : Int) : List Int := if shB p z = true then shW p z else []
theorem sh_no {p : List Int} {z : Int} (h : (polyB p && inB z (-200) 200) = false) : shB p z = false ∧ shP p z = [] := by
  have : shB p z = false := by unfold shB; rw [h]; rfl
  exact ⟨this, by unfold shP; rw [this]; rfl⟩
theorem sh_yes {p : List Int} {z : Int} (h1 : polyB p = true) (h2 : inB z (-200) 200 = true) : shB p z = polyB (shW p z) ∧ shP p z = keepP (shW p z) := by
  have : shB p z = polyB (shW p z) := by unfold shB; rw [h1, h2]; rfl
  exact ⟨this, by unfold shP keepP; rw [this]⟩
theorem shP_length (p : List Int) (z : Int) : (shP p z).length ≤ 7 := by
  unfold shP
  split
  · rename_i h
    unfold shB at h
    exact (poly_len (Bool.and_eq_true_iff.1 h).2).2
  · decide

set_option maxHeartbeats 2000000 in
theorem shiftPoly_impl (A : Option Addr) (n cap : Nat) (p : List Int) (z : Int) (w : World) (hr : Row w w.heap.size A p) (hn : n = p.length) (hc : n ≤ cap) (hx : n ≤ 10000000) :
    Calls Try.prog 11 #[.slice A n cap, .int .i64 z] w (GivesB w (shP p z) (shB p z)) := by
  cases h : polyB p
  · rw [(sh_no (z := z) (by rw [h]; rfl)).1, (sh_no (z := z) (by rw [h]; rfl)).2]
    have N := Lib.hid hn; have R := Lib.hid hr; have H := Lib.hid h; clear hn hr h
    go_enter Try.func11, Try.ntmps11
    go_wp2_with (go_at_call 34; refine (pvI _ _ _ p _ _ R.out N.out hx).mono ?_; rintro e w' ⟨rfl, rfl⟩; rw [H.out])
    go_ret2
    exact ⟨none, 0, rfl, Own.none_ _ _ _, Below.refl _ _⟩
  · cases hk : inB z (-200) 200
    · rw [(sh_no (z := z) (by rw [h, hk]; rfl)).1, (sh_no (z := z) (by rw [h, hk]; rfl)).2]
      have N := Lib.hid hn; have R := Lib.hid hr; have H := Lib.hid h; have K := Lib.hid hk; clear hn hr h hk
      go_enter Try.func11, Try.ntmps11
      go_wp2_with (first | (go_at_call 34; refine (pvI _ _ _ p _ _ R.out N.out hx).mono ?_; rintro e w' ⟨rfl, rfl⟩; rw [H.out]) | (go_at_call 35; refine (within_any _ _ _ (by decide) (by decide)).mono ?_; rintro e w' ⟨rfl, rfl⟩; rw [K.out]))
      go_ret2
      exact ⟨none, 0, rfl, Own.none_ _ _ _, Below.refl _ _⟩
    · rw [(sh_yes h hk).1, (sh_yes h hk).2]
      have hz := inB_true hk
      have hl := poly_len h
      have n7 : n ≤ 7 := by omega
      obtain ⟨b, o, rfl⟩ := poly_addr hr hl.1
      have hmk := make_ints n (by omega) (n : Int) rfl
      have hsl : (shW p z).length = n := by rw [shW_length]; omega
      have PB := Lib.hid (poly_bd h); have L := Lib.hid hsl; have N := Lib.hid hn; have R := Lib.hid hr; have H := Lib.hid h; have K := Lib.hid hk; clear hn hr h hk hsl hl
      go_enter Try.func11, Try.ntmps11
      go_wp2_with (first | (go_at_call 34; refine (pvI _ _ _ p _ _ R.out N.out hx).mono ?_; rintro e w' ⟨rfl, rfl⟩; rw [H.out]) | (go_at_call 35; refine (within_any _ _ _ (by decide) (by decide)).mono ?_; rintro e w' ⟨rfl, rfl⟩; rw [K.out]))
      go_loopw [21] (fun i wr => ∃ k : Nat, k ≤ n ∧ i = .int .i64 k ∧ Blk wr w.heap.size 3 (cI (part (shW p z) k)) ∧ Below w.heap.size w wr) (fun i _ => n - (intOf i).toNat)
      case atStart => exact ⟨0, Nat.zero_le _, rfl, by rw [part_zero, L.out]; exact Blk.new _ _ _, (Below.refl _ _).alloc (Nat.le_refl _) _⟩
      case round =>
        obtain ⟨k, hk, rfl, hblk, hw⟩ := hrel
        by_cases hlt : k < n
        · have hls : k < (shW p z).length := by rw [L.out]; exact hlt
          have hkc : k ≤ n := by omega
          have hkcap : ¬ cap = k := by omega
          have hkcap2 : k ≤ cap := by omega
          obtain ⟨old, hold⟩ := part_some hblk hls
          have hfree := hblk.free k
          have ST := Lib.hid (fill_int (x := evZ (p.drop k) z) hblk hls (shL_at hls))
          have C := Lib.hid (valueAt_any (some ⟨b, o + k, none⟩) (n - k) (cap - k) (p.drop k) z wr w.heap.size ((R.out.keep hw).cut) (by rw [List.length_drop, ← N.out]) (by omega) (fun x hx => PB.out x (List.mem_of_mem_drop hx)) (by omega) (by omega))
          have V := Lib.hid hw; clear hblk hw
          generalize evZ (p.drop k) z = x at *
          go_wp2_with (go_at_call 36; refine C.out.mono ?_; rintro e w' ⟨rfl, rfl⟩)
          go_roundw
          case rel => exact ⟨k + 1, by omega, by go_num, ST.out, V.out.setCell (p := ⟨w.heap.size, k, none⟩) (Nat.le_refl _) _⟩
          case measure => simp [intOf] <;> omega
        · obtain rfl : k = n := by omega
          rw [← L.out, part_all] at hblk
          have O := Lib.hid (own_part hblk L.out.symm (by have := L.out; omega)); have V := Lib.hid hw; clear hblk hw
          go_wp2_with (go_at_call 37; refine (checked_own _ _ _ _ _ (shW p z) w _ O.out (Nat.le_refl _) (Nat.le_refl _) V.out L.out.symm (by have := L.out; omega)).mono ?_; rintro e w2 ⟨A2, c2, rfl, o2, b2⟩; have O2 := Lib.hid o2; have B2 := Lib.hid b2; clear o2 b2)
          go_ret2
          exact ⟨_, _, rfl, O2.out, B2.out⟩

set_option maxHeartbeats 2000000 in
theorem shiftPoly_spec (A : Option Addr) (n cap : Nat) (p : List Int) (z : Int) (w : World) (hr : Row w w.heap.size A p) (hn : n = p.length) (_hc : n ≤ cap) (hx : n ≤ 10000000) :
    Calls Try.prog 9 #[.slice A n cap, .int .i64 z] w (GivesB w (shP p z) (shB p z)) := by
  have E := Lib.hid (empty_left (Below.refl w.heap.size w))
  cases h : polyB p
  · rw [(sh_no (z := z) (by rw [h]; rfl)).1, (sh_no (z := z) (by rw [h]; rfl)).2]
    have N := Lib.hid hn; have R := Lib.hid hr; have H := Lib.hid h; clear hn hr h
    go_enter Try.func9, Try.ntmps9
    go_wp2_with (go_at_call 30; refine (pvS _ _ _ p _ _ R.out N.out hx).mono ?_; rintro e w' ⟨rfl, rfl⟩; rw [H.out])
    go_ret2
    exact ⟨_, _, rfl, E.out.1, E.out.2⟩
  · cases hk : inB z (-200) 200
    · rw [(sh_no (z := z) (by rw [h, hk]; rfl)).1, (sh_no (z := z) (by rw [h, hk]; rfl)).2]
      have N := Lib.hid hn; have R := Lib.hid hr; have H := Lib.hid h; have K := Lib.hid hk; clear hn hr h hk
      go_enter Try.func9, Try.ntmps9
      go_wp2_with (first | (go_at_call 30; refine (pvS _ _ _ p _ _ R.out N.out hx).mono ?_; rintro e w' ⟨rfl, rfl⟩; rw [H.out]) | (go_at_call 31; refine (l2Argument_any _ _).mono ?_; rintro e w' ⟨rfl, rfl⟩; rw [K.out]))
      go_ret2
      exact ⟨_, _, rfl, E.out.1, E.out.2⟩
    · rw [(sh_yes h hk).1, (sh_yes h hk).2, ← shW_firsts]
      have hz := inB_true hk
      have hl := poly_len h
      have n7 : n ≤ 7 := by omega
      have VL : Hid (n = (valsL p z p.length).length) := by show _ = _; rw [valsL_length]; exact hn
      have VB := Lib.hid (valsL_bd (m := p.length) (poly_bd h) hl.2 hl.2 hz.1 hz.2)
      have C := Lib.hid (l2Values_any A n cap p z n w hr hn n7 (poly_bd h) hz.1 (by omega) (by omega))
      have N := Lib.hid hn; have R := Lib.hid hr; have H := Lib.hid h; have K := Lib.hid hk; clear hn hr h hk hl
      go_enter Try.func9, Try.ntmps9
      go_wp2_with (first | (go_at_call 30; refine (pvS _ _ _ p _ _ R.out N.out hx).mono ?_; rintro e w' ⟨rfl, rfl⟩; rw [H.out]) | (go_at_call 31; refine (l2Argument_any _ _).mono ?_; rintro e w' ⟨rfl, rfl⟩; rw [K.out]) | (go_at_call 33; refine C.out.mono ?_; rintro e w1 hg; rw [N.out] at hg; obtain ⟨A1, c1, rfl, o1, b1⟩ := hg.len n VL.out; have O1 := Lib.hid o1; have B1 := Lib.hid b1; clear hg o1 b1) | (go_at_call 32; refine (l2Result_any _ _ _ (valsL p z p.length) 88270000000000000 _ O1.out.row VL.out n7 (by decide) (by decide) VB.out).mono ?_; rintro e w2 ⟨A2, c2, rfl, o2, b2⟩; have O2 := Lib.hid (o2.loosen B1.out.size (Nat.le_refl _)); have B2 := Lib.hid (B1.out.trans (b2.mono B1.out.size)); clear o2 b2))
      go_ret2
      exact ⟨_, _, rfl, O2.out, B2.out⟩
end Go.Proofs.Ytbcmpgagceomgaa
