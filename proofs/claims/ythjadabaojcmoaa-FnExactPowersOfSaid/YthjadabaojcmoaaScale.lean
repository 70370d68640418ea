/- The walks of both texts of ScalePoly and ValuesOf. -/
import Derived.Test.YthjadabaojcmoaaEval
namespace Go.Proofs.Ythjadabaojcmoaa
open Go.RowKit

/-- A list of the call's own, made as a block and filled from its front, is given back. -/
theorem own_part {w wr : World} {xs : List Int} {n : Nat} (hb : Blk wr w.heap.size 3 (cI xs)) (hn : n = xs.length) (hx : n ≤ 10000000) : Own wr w.heap.size wr.heap.size (.slice (some ⟨w.heap.size, 0, none⟩) n n) xs := by
  subst hn
  exact Own.block hb rfl (Nat.le_refl _) hb.lt (by unfold maxLen; omega)
theorem fill_int {W : World} {g : Nat} {t : TypeId} {xs : List Int} {k : Nat} {x : Int} (h : Blk W g t (cI (part xs k))) (hk : k < xs.length) (hx : xs[k] = x) :
    Blk (W.setCell ⟨g, k, none⟩ (.int .i64 x)) g t (cI (part xs (k + 1))) := by
  have h2 := h.put k (.int .i64 xs[k])
  rw [cI_set, part_step _ _ hk, hx] at h2
  exact h2
theorem part_some {W : World} {g : Nat} {t : TypeId} {xs : List Int} {k : Nat} (h : Blk W g t (cI (part xs k))) (hk : k < xs.length) : ∃ u, W.cell? ⟨g, k, none⟩ = some u :=
  ⟨_, cI_cell h (by rw [part_length _ _ (by omega)]; exact hk)⟩

/-- The numbers of a list, each times k. -/
def scaleL (xs : List Int) (k : Int) : List Int := xs.map fun x => x * k
theorem scaleL_length (xs : List Int) (k : Int) : (scaleL xs k).length = xs.length := by simp [scaleL]
theorem scaleL_at {xs : List Int} {k : Int} {j : Nat} (h : j < (scaleL xs k).length) (h2 : j < xs.length) : (scaleL xs k)[j] = xs[j] * k := by
  simp [scaleL]
def scB (xs : List Int) (k : Int) : Bool := (polyB xs && inB k (-100000) 100000) && polyB (scaleL xs k)
def scP (xs : List Int) (k : Int) : List Int := if scB xs k = true then scaleL xs k else []
theorem sc_no {xs : List Int} {k : Int} (h : (polyB xs && inB k (-100000) 100000) = false) : scB xs k = false ∧ scP xs k = [] := by
  have : scB xs k = false := by unfold scB; rw [h]; rfl
  exact ⟨this, by unfold scP; rw [this]; rfl⟩
theorem sc_yes {xs : List Int} {k : Int} (h1 : polyB xs = true) (h2 : inB k (-100000) 100000 = true) : scB xs k = polyB (scaleL xs k) ∧ scP xs k = keepP (scaleL xs k) := by
  have : scB xs k = polyB (scaleL xs k) := by unfold scB; rw [h1, h2]; rfl
  exact ⟨this, by unfold scP keepP; rw [this]⟩
theorem scP_length (xs : List Int) (k : Int) : (scP xs k).length ≤ 7 := by
  unfold scP
  split
  · rename_i h
    unfold scB at h
    exact (poly_len (Bool.and_eq_true_iff.1 h).2).2
  · decide

set_option maxHeartbeats 2000000 in
theorem scalePoly_impl (A : Option Addr) (n cap : Nat) (xs : List Int) (z : Int) (w : World) (hr : Row w w.heap.size A xs) (hn : n = xs.length) (hx : n ≤ 10000000) :
    Calls Try.prog 26 #[.slice A n cap, .int .i64 z] w (GivesB w (scP xs z) (scB xs z)) := by
  cases h : polyB xs
  · rw [(sc_no (k := z) (by rw [h]; rfl)).1, (sc_no (k := z) (by rw [h]; rfl)).2]
    have N := Lib.hid hn; have R := Lib.hid hr; have H := Lib.hid h; clear hn hr h
    go_enter Try.func26, Try.ntmps26
    go_wp2_with (go_at_call 44; refine (pvI _ _ _ xs _ _ R.out N.out hx).mono ?_; rintro e w' ⟨rfl, rfl⟩; rw [H.out])
    go_ret2
    exact ⟨none, 0, rfl, Own.none_ _ _ _, Below.refl _ _⟩
  · cases hk : inB z (-100000) 100000
    · rw [(sc_no (k := z) (by rw [h, hk]; rfl)).1, (sc_no (k := z) (by rw [h, hk]; rfl)).2]
      have N := Lib.hid hn; have R := Lib.hid hr; have H := Lib.hid h; have K := Lib.hid hk; clear hn hr h hk
      go_enter Try.func26, Try.ntmps26
      go_wp2_with (first | (go_at_call 44; refine (pvI _ _ _ xs _ _ R.out N.out hx).mono ?_; rintro e w' ⟨rfl, rfl⟩; rw [H.out]) | (go_at_call 48; refine (within_any _ _ _ (by decide) (by decide)).mono ?_; rintro e w' ⟨rfl, rfl⟩; rw [K.out]))
      go_ret2
      exact ⟨none, 0, rfl, Own.none_ _ _ _, Below.refl _ _⟩
    · rw [(sc_yes h hk).1, (sc_yes h hk).2]
      have hz := inB_true hk
      have hl := poly_len h
      have hmk := make_ints n (by omega) (n : Int) rfl
      have hsl : (scaleL xs z).length = n := by rw [scaleL_length]; omega
      have PB := Lib.hid (poly_bd h); have L := Lib.hid hsl; have N := Lib.hid hn; have R := Lib.hid hr; have H := Lib.hid h; have K := Lib.hid hk; clear hn hr h hk hsl
      go_enter Try.func26, Try.ntmps26
      go_wp2_with (first | (go_at_call 44; refine (pvI _ _ _ xs _ _ R.out N.out hx).mono ?_; rintro e w' ⟨rfl, rfl⟩; rw [H.out]) | (go_at_call 48; refine (within_any _ _ _ (by decide) (by decide)).mono ?_; rintro e w' ⟨rfl, rfl⟩; rw [K.out]))
      go_loopw [22] (fun i wr => ∃ k : Nat, k ≤ n ∧ i = .int .i64 k ∧ Blk wr w.heap.size 3 (cI (part (scaleL xs z) k)) ∧ Below w.heap.size w wr) (fun i _ => n - (intOf i).toNat)
      case atStart => exact ⟨0, Nat.zero_le _, rfl, by rw [part_zero, L.out]; exact Blk.new _ _ _, (Below.refl _ _).alloc (Nat.le_refl _) _⟩
      case round =>
        obtain ⟨k, hk, rfl, hblk, hw⟩ := hrel
        by_cases hlt : k < n
        · have hlx : k < xs.length := by have := N.out; omega
          have hls : k < (scaleL xs z).length := by rw [L.out]; exact hlt
          obtain ⟨b, o, rfl, hbw, hc⟩ := (R.out.keep hw) k hlx
          have bx := PB.out xs[k] (List.getElem_mem _)
          have bp := mul_bd xs[k] z 100000 100000 (by decide) (by decide) bx.1 bx.2 hz.1 hz.2
          obtain ⟨old, hold⟩ := part_some hblk hls
          have hfree := hblk.free k
          have ST := Lib.hid (fill_int hblk hls (scaleL_at hls hlx))
          have V := Lib.hid hw; clear hblk hw
          go_wp2_with fail
          go_roundw
          case rel => exact ⟨k + 1, by omega, by go_num, ST.out, V.out.setCell (p := ⟨w.heap.size, k, none⟩) (Nat.le_refl _) _⟩
          case measure => simp [intOf] <;> omega
        · obtain rfl : k = n := by omega
          rw [← L.out, part_all] at hblk
          have O := Lib.hid (own_part hblk L.out.symm (by have := L.out; omega)); have V := Lib.hid hw; clear hblk hw
          go_wp2_with (go_at_call 45; refine (checked_own _ _ _ _ _ (scaleL xs z) w _ O.out (Nat.le_refl _) (Nat.le_refl _) V.out L.out.symm (by have := L.out; omega)).mono ?_; rintro e w2 ⟨A2, c2, rfl, o2, b2⟩; have O2 := Lib.hid o2; have B2 := Lib.hid b2; clear o2 b2)
          go_ret2
          exact ⟨_, _, rfl, O2.out, B2.out⟩

set_option maxHeartbeats 2000000 in
theorem scalePoly_spec (A : Option Addr) (n cap : Nat) (xs : List Int) (z : Int) (w : World) (hr : Row w w.heap.size A xs) (hn : n = xs.length) (hx : n ≤ 10000000) :
    Calls Try.prog 25 #[.slice A n cap, .int .i64 z] w (GivesB w (scP xs z) (scB xs z)) := by
  have E := Lib.hid (empty_left (Below.refl w.heap.size w))
  cases h : polyB xs
  · rw [(sc_no (k := z) (by rw [h]; rfl)).1, (sc_no (k := z) (by rw [h]; rfl)).2]
    have N := Lib.hid hn; have R := Lib.hid hr; have H := Lib.hid h; clear hn hr h
    go_enter Try.func25, Try.ntmps25
    go_wp2_with (go_at_call 43; refine (pvS _ _ _ xs _ _ R.out N.out hx).mono ?_; rintro e w' ⟨rfl, rfl⟩; rw [H.out])
    go_ret2
    exact ⟨_, _, rfl, E.out.1, E.out.2⟩
  · cases hk : inB z (-100000) 100000
    · rw [(sc_no (k := z) (by rw [h, hk]; rfl)).1, (sc_no (k := z) (by rw [h, hk]; rfl)).2]
      have N := Lib.hid hn; have R := Lib.hid hr; have H := Lib.hid h; have K := Lib.hid hk; clear hn hr h hk
      go_enter Try.func25, Try.ntmps25
      go_wp2_with (first | (go_at_call 43; refine (pvS _ _ _ xs _ _ R.out N.out hx).mono ?_; rintro e w' ⟨rfl, rfl⟩; rw [H.out]) | (go_at_call 51; refine (l1In_any _ _ _ _).mono ?_; rintro e w' ⟨rfl, rfl⟩; rw [K.out]))
      go_ret2
      exact ⟨_, _, rfl, E.out.1, E.out.2⟩
    · rw [(sc_yes h hk).1, (sc_yes h hk).2]
      have hz := inB_true hk
      have hl := poly_len h
      have hsl : (scaleL xs z).length = n := by rw [scaleL_length]; omega
      have PB := Lib.hid (poly_bd h); have L := Lib.hid hsl; have N := Lib.hid hn; have R := Lib.hid hr; have H := Lib.hid h; have K := Lib.hid hk; clear hn hr h hk hsl
      go_enter Try.func25, Try.ntmps25
      go_wp2_with (first | (go_at_call 43; refine (pvS _ _ _ xs _ _ R.out N.out hx).mono ?_; rintro e w' ⟨rfl, rfl⟩; rw [H.out]) | (go_at_call 51; refine (l1In_any _ _ _ _).mono ?_; rintro e w' ⟨rfl, rfl⟩; rw [K.out]))
      go_loopw [6, 7] (fun v i wr => ∃ (k : Nat) (A1 : Option Addr) (c1 : Nat), k ≤ n ∧ i = .int .i64 k ∧ v = .slice A1 k c1 ∧ Own wr w.heap.size wr.heap.size (.slice A1 k c1) ((scaleL xs z).take k) ∧ Below w.heap.size w wr) (fun _ i _ => n - (intOf i).toNat)
      case atStart => exact ⟨0, _, _, Nat.zero_le _, rfl, rfl, Own.empty w, (Below.refl _ _).alloc (Nat.le_refl _) _⟩
      case round =>
        obtain ⟨k, A1, c1, hk, rfl, rfl, ho, hw⟩ := hrel
        by_cases hlt : k < n
        · have hlx : k < xs.length := by have := N.out; omega
          have hls : k < (scaleL xs z).length := by rw [L.out]; exact hlt
          obtain ⟨b, o, rfl, hbw, hc⟩ := (R.out.keep hw) k hlx
          have bx := PB.out xs[k] (List.getElem_mem _)
          have bp := mul_bd z xs[k] 100000 100000 (by decide) (by decide) hz.1 hz.2 bx.1 bx.2
          have tk : (scaleL xs z).take k ++ [z * xs[k]] = (scaleL xs z).take (k + 1) := by
            rw [List.take_succ_eq_append_getElem hls, scaleL_at hls hlx, Int.mul_comm]
          have lk : k = ((scaleL xs z).take k).length := by rw [List.length_take, L.out]; omega
          generalize xs[k] = x at *
          have wa : Below wr.heap.size wr (wr.alloc (.cells #[.int .i64 (z * x)] 3)) := (Below.refl wr.heap.size wr).alloc (Nat.le_refl _) _
          have O := Lib.hid (ho.below wa (Nat.le_refl _)); have V := Lib.hid (hw.trans (wa.mono hw.size)); have TK := Lib.hid tk; have LK := Lib.hid lk; clear ho hw tk lk wa
          go_wp2_with (at_builtin; refine wpList_app rfl _ _ rfl rfl O.out V.out.size rfl rfl (Row.single wr (z * x) 3) (by have := LK.out; simp; omega) (k + 1) (by rw [← LK.out]; rfl) ?_; intro A3 c3 w3 ho3 hg3; have O3 := Lib.hid ho3; have V3 := Lib.hid (below_grown V.out hg3 O.out V.out.size (Nat.le_refl _)); clear ho3 hg3)
          go_roundw
          case rel => exact ⟨k + 1, _, _, by omega, by go_num, rfl, by have h := O3.out; rw [TK.out] at h; exact h, V3.out⟩
          case measure => simp [intOf] <;> omega
        · obtain rfl : k = n := by omega
          rw [List.take_of_length_le (by rw [L.out]; exact Nat.le_refl _)] at ho
          have O := Lib.hid ho; have V := Lib.hid hw; have E2 := Lib.hid (empty_left hw); clear ho hw
          cases hp : polyB (scaleL xs z)
          · have P := Lib.hid hp; clear hp
            go_wp2_with (go_at_call 43; refine (pvS _ _ _ (scaleL xs z) _ _ O.out.row L.out.symm (by have := L.out; omega)).mono ?_; rintro e w' ⟨rfl, rfl⟩; rw [P.out])
            go_ret2
            exact keep_no P.out E2.out.1 E2.out.2
          · have P := Lib.hid hp; clear hp
            go_wp2_with (go_at_call 43; refine (pvS _ _ _ (scaleL xs z) _ _ O.out.row L.out.symm (by have := L.out; omega)).mono ?_; rintro e w' ⟨rfl, rfl⟩; rw [P.out])
            go_ret2
            exact keep_yes P.out L.out.symm O.out V.out
end Go.Proofs.Ythjadabaojcmoaa
