/- What the draws of columns with marks return. -/
import Derived.Test.YtghgienpkffcbaaDrawCol
import Derived.Deep.RegionWith
namespace Go.Proofs.Ytghgienpkffcbaa
open Go.RowKit

set_option maxHeartbeats 400000 in
/-- A string out of a list that is written down at the call: no other block turns. -/
theorem of_kept {w : World} {g : Nat} {A : Option Addr} {m c : Nat} {p : Int} (S : Src w g A m c p) (p1 : p ≤ 10000) (xs : List ByteArray) (n : Nat) (hn : n = xs.length) (n1 : 1 ≤ n) (n2 : n ≤ 1000) :
    Calls Try.prog 39 #[.pointer (some ⟨g, 0, none⟩), .slice (some ⟨w.heap.size, 0, none⟩) n n] (w.alloc (.cells (cS xs) 9)) fun e w' => ∃ x, (e = .returned (.string x) ∧ x ∈ xs) ∧ (∀ k, k ≠ g → k < w.heap.size → w'.heap[k]? = w.heap[k]?) ∧ Below g w w' := by
  have S1 := S.alloc (.cells (cS xs) 9)
  have hl := S.lt
  have hB := Blk.new w 9 (cS xs)
  have C := Lib.hid (pick_S S1 (n : Int) (by omega) (by omega) (by omega))
  have V := Lib.hid ((Below.refl g w).alloc (by omega) (.cells (cS xs) 9))
  have F := Lib.hid ((Below.refl w.heap.size w).alloc (Nat.le_refl _) (.cells (cS xs) 9)).block
  have HB := Lib.hid hB; have N := Lib.hid hn; clear S1 S hB hn
  generalize w.alloc (.cells (cS xs) 9) = w1 at *
  generalize hh : w.heap.size = h at *
  clear hh
  go_enter Try.func39, Try.ntmps39
  go_wp2_with fail
  refine C.out.mono ?_
  rintro e w2 ⟨z, rfl, ⟨z0, z1⟩, S2, ht⟩
  obtain ⟨q, rfl⟩ := Int.eq_ofNat_of_zero_le z0
  have hq : q < xs.length := by have := N.out; omega
  have hq2 : q < n := by omega
  have hc := (ht.stay HB.out (by omega)).cell q
  rw [cS_at hq] at hc
  have HX := Lib.hid (List.getElem_mem hq)
  have T := Lib.hid (V.out.trans ht.below)
  have K : Hid (∀ k, k ≠ g → k < h → w2.heap[k]? = w.heap[k]?) := Lib.hid fun k h1 h2 => (ht.block k h1).trans (F.out k h2)
  clear S2 ht C
  generalize xs[q] = x at *
  go_wp2_with fail
  go_ret
  exact ⟨x, ⟨rfl, HX.out⟩, K.out, T.out⟩

theorem short_one {x : ByteArray} (hx : x ∈ ([⟨#[50]⟩, ⟨#[48]⟩, ⟨#[120]⟩] : List ByteArray)) : x.size ≤ 1 := by
  simp at hx
  rcases hx with rfl | rfl | rfl <;> decide

set_option maxHeartbeats 2000000 in
theorem drawCarryOnce_any (A : Option Addr) (m c : Nat) (w : World) (hr : RowB w w.heap.size A m) (hc : m ≤ c) (hx : m ≤ 1048576) :
    Calls Try.prog 16 #[.slice A m c] w fun e w' => ∃ s t : ByteArray, (e = .returned (.tuple #[.string s, .string t]) ∧ s.size ≤ 15 ∧ t.size ≤ 15) ∧ Below w.heap.size w w' := by
  have C := Lib.hid (open_S A m c w hr hc hx)
  clear hr
  generalize hg : w.heap.size = g at *
  go_enter Try.func16, Try.ntmps16
  go_wp2_with fail
  refine C.out.mono ?_
  rintro e w1 ⟨m1, c1, rfl, S1, b1⟩
  have C1 := Lib.hid (l1Any_S S1 (by omega)); have B1 := Lib.hid b1; clear S1 b1 C
  go_wp2_with fail
  refine C1.out.mono ?_
  rintro e w2 ⟨k, ⟨rfl, k1, k2⟩, S2, b2⟩
  have C2 := Lib.hid (l1Some_S S2 (by omega) k k1 k2); have B2 := Lib.hid (B1.out.trans b2); clear S2 b2 C1
  go_wp2_with fail
  refine C2.out.mono ?_
  rintro e w3 ⟨s, p3, ⟨rfl, hs⟩, ⟨hp3, S3⟩, b3⟩
  have C3 := Lib.hid (l1Bad_S S3 (by omega) s (by omega)); have B3 := Lib.hid (B2.out.trans b3); clear S3 b3 C2 hs
  go_wp2_with fail
  refine C3.out.mono ?_
  rintro e w4 ⟨s, p4, ⟨rfl, hs⟩, ⟨hp4, S4⟩, b4⟩
  have hmk := make_bytes k (by omega) (k : Int) rfl
  have S5 := S4.alloc (.cells (cB (List.replicate k 0)) 5)
  have hB := Blk.new w4 5 (cB (List.replicate k 0))
  have hl := S4.lt
  have hne : w4.heap.size ≠ g := by omega
  have hlg : g ≤ w4.heap.size := by omega
  have B4 := Lib.hid ((B3.out.trans b4).alloc hlg (.cells (cB (List.replicate k 0)) 5))
  have R : Hid (Drawing w g A m1 c1 p4 k w4.heap.size (.int .i64 0) (w4.alloc (.cells (cB (List.replicate k 0)) 5))) := Lib.hid ⟨0, _, p4, Nat.zero_le _, rfl, Lib.hid (List.length_replicate ..), Lib.hid hB, Lib.hid S5, by omega, B4⟩
  have NE := Lib.hid hne
  have HG := Lib.hid hg
  clear S4 S5 hB b4 hne C3 hg
  go_wp2_with fail
  clear hmk
  generalize w4.heap.size = h at *
  go_loopw [8] (fun i wr => Drawing w g A m1 c1 p4 k h i wr) (fun i _ => k - (intOf i).toNat)
  case atStart => exact R.out
  case round =>
    obtain ⟨q, l, p', hq, rfl, L, HB, HS, hp, HV⟩ := hrel
    by_cases hlt : q < k
    · have D1 := Lib.hid (pick_S HS.out 2 (by omega) (by omega) (by omega))
      go_wp2_with fail
      refine D1.out.mono ?_
      rintro e w5 ⟨x, rfl, ⟨x0, x1⟩, S6, ht⟩
      have HB2 := Lib.hid (ht.stay HB.out NE.out)
      have hold := cB_cell HB2.out (i := q) (by rw [L.out]; exact hlt)
      have hfree := HB2.out.free q
      obtain ⟨l2, L2, HB3⟩ := store_byte L.out HB2.out q (48 + x) (by omega) (by omega)
      have S7 := Lib.hid (S6.put (h := h) (by omega) q (.int .u8 (48 + x)))
      have V3 := Lib.hid ((HV.out.trans ht.below).setCell (p := ⟨h, q, none⟩) (by show g ≤ h; omega) (.int .u8 (48 + x)))
      have LL := Lib.hid L2; have HB4 := Lib.hid HB3; clear S6 ht HB3 L2 D1
      go_wp2_with fail
      go_roundw
      case rel => exact ⟨q + 1, l2, _, by omega, by go_num, LL, HB4, S7, by omega, V3⟩
      case measure => simp [intOf] <;> omega
    · obtain rfl : q = k := by omega
      have D1 := Lib.hid (pick_S HS.out 24 (by omega) (by omega) (by omega))
      go_wp2_with fail
      refine D1.out.mono ?_
      rintro e w5 ⟨x, rfl, ⟨x0, x1⟩, S6, ht⟩
      have HB2 := Lib.hid (ht.stay HB.out NE.out)
      have V2 := Lib.hid (HV.out.trans ht.below)
      have hsz : (str l).size = q := by rw [size_str]; exact L.out
      clear ht D1
      by_cases h0 : x = 0
      · subst h0
        have hlt5 := S6.lt
        have hlt6 := HB2.out.lt
        have C5 : Hid (Calls Try.prog 39 #[.pointer (some ⟨g, 0, none⟩), .slice (some ⟨w5.heap.size, 0, none⟩) 3 3] (w5.alloc (.cells (cS [⟨#[50]⟩, ⟨#[48]⟩, ⟨#[120]⟩]) 9)).drew fun e w' => ∃ x, (e = .returned (.string x) ∧ x ∈ ([⟨#[50]⟩, ⟨#[48]⟩, ⟨#[120]⟩] : List ByteArray)) ∧ (∀ k, k ≠ g → k < w5.heap.size → w'.heap[k]? = w5.heap[k]?) ∧ Below g w5.drew w') := of_kept S6.drew (by omega) [⟨#[50]⟩, ⟨#[48]⟩, ⟨#[120]⟩] 3 rfl (by decide) (by decide)
        have hcv : ∀ W : World, W.heap[h]? = w5.heap[h]? → (convert 28 9 (.slice (some ⟨h, 0, none⟩) q q)).run Try.prog W = .ok (.string (str l)) W := fun W he => string_of (HB2.out.stay he) q q L.out.symm
        have hc1 := hcv w5.drew rfl
        have hc2 := hcv (w5.alloc (.cells #[.string ⟨#[50]⟩, .string ⟨#[48]⟩, .string ⟨#[120]⟩] 9)).drew (((Below.refl w5.heap.size w5).alloc (Nat.le_refl _) _).block h hlt6)
        have HCV := Lib.hid hcv
        have hsz12 : (str l).size ≤ 12 := by omega
        clear S6 hcv hsz
        go_wp2_with fail
        go_region_with (first | (go_at_call 39; refine C5.out.mono ?_; rintro e w6 ⟨x, ⟨rfl, hx⟩, hk, hb⟩; have hc3 := HCV.out w6 (hk h NE.out hlt6); have hx1 := short_one hx; have V6 := Lib.hid hb; clear hx hk hb))
        all_goals
          go_wp2_with fail
          go_ret2
          exact ⟨s, _, ⟨rfl, hs, by rw [ByteArray.size_append]; omega⟩, V2.out.drew.trans V6.out⟩
      · have b0 : (x == 0) = false := by simp [h0]
        have hc1 := string_of HB2.out q q L.out.symm
        have hc2 := string_of (W := w5.drew) HB2.out q q L.out.symm
        have HSZ := Lib.hid hsz
        clear h0 hsz S6
        go_wp2_with fail
        go_region
        go_wp2_with fail
        go_ret2
        exact ⟨s, str l, ⟨rfl, hs, by rw [HSZ.out]; omega⟩, V2.out.drew⟩

set_option maxHeartbeats 400000 in
theorem drawCarryAll_any (A : Option Addr) (m c : Nat) (w : World) (hr : RowB w w.heap.size A m) (hc : m ≤ c) (hx : m ≤ 1048576) :
    Calls Try.prog 18 #[.slice A m c] w fun e w' => ∃ s t : ByteArray, (e = .returned (.tuple #[.string s, .string t]) ∧ s.size ≤ 15 ∧ t.size ≤ 15) ∧ Below w.heap.size w w' := by
  have C := Lib.hid (drawCarryOnce_any A m c w hr hc hx)
  clear hr
  go_enter Try.func18, Try.ntmps18
  go_wp2_with fail
  refine C.out.mono ?_
  rintro e w1 ⟨s, t, ⟨rfl, hs, ht⟩, hb⟩
  have B := Lib.hid hb; clear hb C
  go_wp2_with fail
  go_ret2
  exact ⟨s, t, ⟨rfl, hs, ht⟩, B.out⟩
end Go.Proofs.Ytghgienpkffcbaa
