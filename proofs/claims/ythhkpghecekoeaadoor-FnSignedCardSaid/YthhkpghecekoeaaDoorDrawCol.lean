/- What the draws of columns, widths and numbers return. -/
import Derived.Test.YthhkpghecekoeaaDoorSrc
import Derived.Test.YthhkpghecekoeaaDoorColE
namespace Go.Proofs.YthhkpghecekoeaaDoor
open Go.RowKit

theorem IsRow.rowB {w : World} {a : Option Addr} {len cap : Nat} {zs : List Int} (h : IsRow .u8 w a len cap zs) : RowB w w.heap.size a len ∧ len ≤ cap := by
  rcases h with ⟨rfl, rfl, rfl, rfl⟩ | ⟨x, rfl, hl, hm, hz, hcell, hwz⟩
  · exact ⟨fun k hk => absurd hk (by omega), Nat.le_refl _⟩
  · refine ⟨fun k hk => ?_, by omega⟩
    have hc := hcell k (by omega)
    obtain ⟨b, off, spot⟩ := x
    have hspot : spot = none := by
      simpa [Addr.add] using World.cell?_spot (hcell 0 (by omega))
    subst hspot
    have e : (⟨b, off, none⟩ : Addr).add k = ⟨b, off + k, none⟩ := by
      unfold Addr.add; split
      · rename_i h0; subst h0; rfl
      · rfl
    rw [e] at hc
    have hk2 : k < zs.length := by omega
    have hw := hwz zs[k] (List.getElem_mem hk2)
    have hget : zs.getD k 0 = zs[k] := by rw [List.getD_eq_getElem?_getD, List.getElem?_eq_getElem hk2]; rfl
    refine ⟨b, off, zs[k], rfl, ?_, by rw [hc, hget], ?_⟩
    · apply Classical.byContradiction
      intro hn
      unfold World.cell? at hc
      rw [Array.getElem?_eq_none (by show w.heap.size ≤ b; omega)] at hc
      cases hc
    · simp [Lit.wf, IntKind.min, IntKind.max, IntKind.bits, IntKind.signed] at hw
      omega

theorem Turned.stay {g h : Nat} {w w' : World} {t : TypeId} {cs : Array Value} (ht : Turned g w w') (hb : Blk w h t cs) (hne : h ≠ g) : Blk w' h t cs := hb.stay (ht.block h hne)

/-- A byte is stored. -/
theorem store_byte {w : World} {h : Nat} {t : TypeId} {l : List UInt8} {k : Nat} (hl : l.length = k) (hb : Blk w h t (cB l)) (q : Nat) (z : Int) (z0 : 0 ≤ z) (z1 : z ≤ 255) :
    ∃ l' : List UInt8, l'.length = k ∧ Blk (w.setCell ⟨h, q, none⟩ (.int .u8 z)) h t (cB l') := by
  obtain ⟨j, rfl⟩ := Int.eq_ofNat_of_zero_le z0
  refine ⟨l.set q (UInt8.ofNat j), by rw [List.length_set, hl], ?_⟩
  rw [← cB_set]
  have e : ((UInt8.ofNat j).toNat : Int) = (j : Int) := by
    rw [UInt8.toNat_ofNat']; omega
  rw [e]
  exact hb.put q _

/-- The state of the loop that draws a column. -/
def Drawing (w : World) (g : Nat) (A : Option Addr) (m c : Nat) (p : Int) (k h : Nat) (i : Value) (wr : World) : Prop :=
  ∃ q : Nat, ∃ l : List UInt8, ∃ p' : Int, q ≤ k ∧ i = .int .i64 (q : Int) ∧ Hid (l.length = k) ∧ Hid (Blk wr h 5 (cB l)) ∧ Hid (Src wr g A m c p') ∧ p' ≤ p + 2 * q ∧ Hid (Below g w wr)

set_option maxHeartbeats 1000000 in
theorem l1Some_S {w : World} {g : Nat} {A : Option Addr} {m c : Nat} {p : Int} (S : Src w g A m c p) (p1 : p ≤ 10000) (k : Nat) (k1 : 1 ≤ k) (k2 : k ≤ 12) :
    Calls Tryd.prog 38 #[.pointer (some ⟨g, 0, none⟩), .int .i64 (k : Int)] w fun e w' => ∃ (s : ByteArray) (p' : Int), (e = .returned (.string s) ∧ s.size = k) ∧ (p' ≤ p + 25 ∧ Src w' g A m c p') ∧ Below g w w' := by
  have hmk := make_bytes k (by omega) (k : Int) rfl
  have S1 := S.alloc (.cells (cB (List.replicate k 0)) 5)
  have hB := Blk.new w 5 (cB (List.replicate k 0))
  have hl := S.lt
  have hne : w.heap.size ≠ g := by omega
  have hW : Below g w (w.alloc (.cells (cB (List.replicate k 0)) 5)) := (Below.refl g w).alloc (by omega) _
  have C := Lib.hid (pick_S S1 4 (by omega) (by omega) (by omega))
  have V := Lib.hid hW; have HB := Lib.hid hB; have NE := Lib.hid hne; clear S S1 hW hB hne
  go_enter Tryd.func38, Tryd.ntmps38
  go_wp2_with fail
  refine C.out.mono ?_
  rintro e w1 ⟨mode, rfl, hm, S2, ht⟩
  have R : Drawing w g A m c (p + 1) k w.heap.size (.int .i64 0) w1 := ⟨0, _, p + 1, Nat.zero_le _, rfl, Lib.hid (List.length_replicate ..), Lib.hid (ht.stay HB.out NE.out), Lib.hid S2, by omega, Lib.hid (V.out.trans ht.below)⟩
  generalize w.heap.size = h at *
  have RR := Lib.hid R; clear R S2 ht HB V C hmk
  obtain ⟨m0, m1⟩ := hm
  go_wp2_with fail
  go_loopw [7] (fun i wr => Drawing w g A m c (p + 1) k h i wr) (fun i _ => k - (intOf i).toNat)
  case atStart => exact RR.out
  case round =>
    obtain ⟨q, l, p', hq, rfl, L, HB, HS, hp, HV⟩ := hrel
    by_cases hlt : q < k
    · have C1 := Lib.hid (pick_S HS.out 10 (by omega) (by omega) (by omega))
      go_wp2_with fail
      refine C1.out.mono ?_
      rintro e w2 ⟨x, rfl, ⟨x0, x1⟩, S2, ht⟩
      have HB2 := Lib.hid (ht.stay HB.out NE.out)
      have hold := cB_cell HB2.out (i := q) (by rw [L.out]; exact hlt)
      have hfree := HB2.out.free q
      have hst := store_byte L.out HB2.out q (48 + x) (by omega) (by omega)
      obtain ⟨l2, L2, HB3⟩ := hst
      have S3 := Lib.hid (S2.put (h := h) (by omega) q (.int .u8 (48 + x)))
      have V3 := Lib.hid ((HV.out.trans ht.below).setCell (p := ⟨h, q, none⟩) (by show g ≤ h; omega) (.int .u8 (48 + x)))
      have LL := Lib.hid L2; have HB4 := Lib.hid HB3; clear S2 ht HB3 L2 C1
      by_cases hm0 : mode = 0
      · subst hm0
        have C2 := Lib.hid (pick_S S3.out 4 (by omega) (by omega) (by omega))
        go_wp2_with fail
        refine C2.out.mono ?_
        rintro e w4 ⟨y, rfl, ⟨y0, y1⟩, S5, ht5⟩
        have HB5 := Lib.hid (ht5.stay HB4.out NE.out)
        have hold5 := cB_cell HB5.out (i := q) (by rw [LL.out]; exact hlt)
        have hfree5 := HB5.out.free q
        obtain ⟨l6, L6, HB6⟩ := store_byte LL.out HB5.out q 48 (by omega) (by omega)
        obtain ⟨l7, L7, HB7⟩ := store_byte LL.out HB5.out q 57 (by omega) (by omega)
        have S6 := Lib.hid (fun u => S5.put (h := h) (by omega) q (.int .u8 u))
        have V6 := Lib.hid (fun u => (V3.out.trans ht5.below).setCell (p := ⟨h, q, none⟩) (by show g ≤ h; omega) (.int .u8 u))
        have LL6 := Lib.hid L6; have LL7 := Lib.hid L7; have HHB6 := Lib.hid HB6; have HHB7 := Lib.hid HB7
        clear S5 ht5 L6 L7 HB6 HB7 C2 hold hfree
        have hy : y = 0 ∨ y = 1 ∨ y = 2 ∨ y = 3 := by omega
        rcases hy with rfl | rfl | rfl | rfl
        · go_wp2_with fail
          go_roundw
          case rel => exact ⟨q + 1, l6, _, by omega, by go_num, LL6, HHB6, Lib.hid (S6.out _), by omega, Lib.hid (V6.out _)⟩
          case measure => simp [intOf] <;> omega
        · go_wp2_with fail
          go_roundw
          case rel => exact ⟨q + 1, l6, _, by omega, by go_num, LL6, HHB6, Lib.hid (S6.out _), by omega, Lib.hid (V6.out _)⟩
          case measure => simp [intOf] <;> omega
        · go_wp2_with fail
          go_roundw
          case rel => exact ⟨q + 1, l7, _, by omega, by go_num, LL7, HHB7, Lib.hid (S6.out _), by omega, Lib.hid (V6.out _)⟩
          case measure => simp [intOf] <;> omega
        · go_wp2_with fail
          go_roundw
          case rel => exact ⟨q + 1, l7, _, by omega, by go_num, LL7, HHB7, Lib.hid (S6.out _), by omega, Lib.hid (V6.out _)⟩
          case measure => simp [intOf] <;> omega
      · have hmb : (mode == 0) = false := by simp [hm0]
        clear hm0
        go_wp2_with fail
        go_roundw
        case rel => exact ⟨q + 1, l2, _, by omega, by go_num, LL, HB4, S3, by omega, V3⟩
        case measure => simp [intOf] <;> omega
    · obtain rfl : q = k := by omega
      have hc := string_of HB.out q q L.out.symm
      clear HB
      go_wp2_with fail
      go_ret
      exact ⟨str l, p', ⟨rfl, by rw [size_str]; exact L.out⟩, ⟨by omega, HS.out⟩, HV.out⟩

/-- How far l9Many has come: n is what is left. -/
def Manying (o s n : Value) : Prop := ∃ (os ss : ByteArray) (j : Nat), o = .string os ∧ s = .string ss ∧ n = .int .i64 (j : Int) ∧
  ((j ≤ 13 ∧ ss.size ≤ 1 ∧ os.size ≤ 0) ∨ (j ≤ 6 ∧ ss.size ≤ 2 ∧ os.size ≤ 1) ∨ (j ≤ 3 ∧ ss.size ≤ 4 ∧ os.size ≤ 3) ∨ (j ≤ 1 ∧ ss.size ≤ 8 ∧ os.size ≤ 7) ∨ (j ≤ 0 ∧ ss.size ≤ 16 ∧ os.size ≤ 15))
set_option maxHeartbeats 1000000 in
theorem l9Many_small (s : ByteArray) (n : Nat) (w : World) (hs : s.size ≤ 1) (hn : n ≤ 13) :
    Calls Tryd.prog 47 #[.string s, .int .i64 (n : Int)] w fun e w' => ∃ t : ByteArray, (e = .returned (.string t) ∧ t.size ≤ 15) ∧ w = w' := by
  go_enter Tryd.func47, Tryd.ntmps47
  go_wp2_with fail
  go_loop [5, 0, 1] (fun o t n => Manying o t n) (fun _ _ n => (intOf n).toNat)
  case atStart => exact ⟨_, s, n, rfl, rfl, rfl, .inl ⟨hn, hs, by simp [ByteArray.size]⟩⟩
  case round =>
    obtain ⟨os, ss, j, rfl, rfl, rfl, hj⟩ := hrel
    have hb : os.size ≤ 15 ∧ ss.size ≤ 16 ∧ j ≤ 13 := by omega
    obtain ⟨hb1, hb2, hb3⟩ := hb
    have J := Lib.hid hj; clear hj
    by_cases h0 : 0 < j
    · have h0' : (0 : Int) < (j : Int) := by omega
      by_cases h2 : j % 2 = 1
      · have hp : ((j : Int) % 2 == 1) = true := by simp; omega
        clear h2
        go_wp2_with fail
        go_round
        case rel =>
          have := J.out
          exact ⟨os ++ ss, ss ++ ss, j / 2, rfl, rfl, by go_num, by rw [ByteArray.size_append, ByteArray.size_append]; omega⟩
        case measure => simp [intOf] <;> omega
      · have hp : ((j : Int) % 2 == 1) = false := by simp; omega
        clear h2
        go_wp2_with fail
        go_round
        case rel =>
          have := J.out
          exact ⟨os, ss ++ ss, j / 2, rfl, rfl, by go_num, by rw [ByteArray.size_append]; omega⟩
        case measure => simp [intOf] <;> omega
    · have h0' : ¬ (0 : Int) < (j : Int) := by omega
      go_wp2_with fail
      go_ret
      exact ⟨⟨os, rfl, hb1⟩, rfl⟩

/-- A string out of a list that is written down at the call. -/
def cS (l : List ByteArray) : Array Value := (l.map Value.string).toArray
theorem cS_at {l : List ByteArray} {i : Nat} (h : i < l.length) : (cS l)[i]? = some (.string l[i]) := by
  simp [cS, List.getElem?_eq_getElem h]
set_option maxHeartbeats 400000 in
theorem of_S {w : World} {g : Nat} {A : Option Addr} {m c : Nat} {p : Int} (S : Src w g A m c p) (p1 : p ≤ 10000) (xs : List ByteArray) (n : Nat) (hn : n = xs.length) (n1 : 1 ≤ n) (n2 : n ≤ 1000) :
    Calls Tryd.prog 46 #[.pointer (some ⟨g, 0, none⟩), .slice (some ⟨w.heap.size, 0, none⟩) n n] (w.alloc (.cells (cS xs) 9)) fun e w' => ∃ x, (e = .returned (.string x) ∧ x ∈ xs) ∧ Src w' g A m c (p + 1) ∧ Below g w w' := by
  have S1 := S.alloc (.cells (cS xs) 9)
  have hl := S.lt
  have hB := Blk.new w 9 (cS xs)
  have C := Lib.hid (pick_S S1 (n : Int) (by omega) (by omega) (by omega))
  have V := Lib.hid ((Below.refl g w).alloc (by omega) (.cells (cS xs) 9))
  have HB := Lib.hid hB; have N := Lib.hid hn; clear S1 S hB hn
  generalize w.alloc (.cells (cS xs) 9) = w1 at *
  generalize w.heap.size = h at *
  go_enter Tryd.func46, Tryd.ntmps46
  go_wp2_with fail
  refine C.out.mono ?_
  rintro e w2 ⟨z, rfl, ⟨z0, z1⟩, S2, ht⟩
  obtain ⟨q, rfl⟩ := Int.eq_ofNat_of_zero_le z0
  have hq : q < xs.length := by have := N.out; omega
  have hq2 : q < n := by omega
  have hc := (ht.stay HB.out (by omega)).cell q
  rw [cS_at hq] at hc
  have HX := Lib.hid (List.getElem_mem hq)
  have SS := Lib.hid S2; have T := Lib.hid (V.out.trans ht.below); clear S2 ht C
  generalize xs[q] = x at *
  go_wp2_with fail
  go_ret
  exact ⟨x, ⟨rfl, HX.out⟩, SS.out, T.out⟩

set_option maxHeartbeats 1000000 in
theorem l1Bad_S {w : World} {g : Nat} {A : Option Addr} {m c : Nat} {p : Int} (S : Src w g A m c p) (p1 : p ≤ 1000) (s : ByteArray) (hs : s.size ≤ 12) :
    Calls Tryd.prog 37 #[.pointer (some ⟨g, 0, none⟩), .string s] w fun e w' => ∃ (t : ByteArray) (p' : Int), (e = .returned (.string t) ∧ t.size ≤ 15) ∧ (p' ≤ p + 2 ∧ Src w' g A m c p') ∧ Below g w w' := by
  have C := Lib.hid (pick_S S 40 (by omega) (by omega) (by omega))
  clear S
  go_enter Tryd.func37, Tryd.ntmps37
  go_wp2_with fail
  refine C.out.mono ?_
  rintro e w1 ⟨z, rfl, ⟨z0, z1⟩, S1, ht⟩
  have V := Lib.hid ht.below
  by_cases h0 : z = 0
  · subst h0
    have C2 := Lib.hid (of_S S1 (by omega) [⟨#[120]⟩, ⟨#[45]⟩, ⟨#[32]⟩, ⟨#[48]⟩] 4 rfl (by decide) (by decide))
    clear S1 C ht
    go_wp2_with fail
    refine C2.out.mono ?_
    rintro e w2 ⟨x, ⟨rfl, hx⟩, S2, hb⟩
    have hx1 : x.size ≤ 1 := by
      simp at hx
      rcases hx with rfl | rfl | rfl | rfl <;> decide
    have SS := Lib.hid S2; have T := Lib.hid (V.out.trans hb); clear S2 hb hx C2
    go_wp2_with fail
    go_ret
    exact ⟨_, _, ⟨rfl, by rw [ByteArray.size_append]; omega⟩, ⟨by omega, SS.out⟩, T.out⟩
  · have b0 : (z == 0) = false := by simp [h0]
    by_cases h1 : z = 1
    · subst h1
      have SS := Lib.hid S1
      clear S1 C ht h0
      go_wp2_with fail
      go_ret
      exact ⟨_, _, ⟨rfl, by decide⟩, ⟨by omega, SS.out⟩, V.out⟩
    · have b1 : (z == 1) = false := by simp [h1]
      by_cases h2 : z = 2
      · subst h2
        have C2 := Lib.hid (num_S S1 (by omega) [12, 13] 2 rfl (by decide) (by decide))
        clear S1 C ht h0 h1
        go_wp2_with fail
        refine C2.out.mono ?_
        rintro e w2 ⟨x, ⟨rfl, hx⟩, S2, hb⟩
        have hx1 : ∃ k : Nat, x = (k : Int) ∧ k ≤ 13 := by
          simp at hx
          exact ⟨x.toNat, by omega, by omega⟩
        obtain ⟨k, rfl, hk⟩ := hx1
        have SS := Lib.hid S2; have T := Lib.hid (V.out.trans hb); clear S2 hb hx C2
        have C3 := Lib.hid (fun W => l9Many_small ⟨#[57]⟩ k W (by decide) hk)
        go_wp2_with fail
        refine (C3.out _).mono ?_
        rintro e w' ⟨t, ⟨rfl, ht⟩, rfl⟩
        go_wp2_with fail
        go_ret
        exact ⟨t, p + 1 + 1, ⟨rfl, ht⟩, ⟨by omega, SS.out⟩, T.out⟩
      · have b2 : (z == 2) = false := by simp [h2]
        have SS := Lib.hid S1
        clear S1 C ht h0 h1 h2
        go_wp2_with fail
        go_ret
        exact ⟨s, _, ⟨rfl, by omega⟩, ⟨by omega, SS.out⟩, V.out⟩

/-- An int of 64 bits. -/
def I64 (x : Int) : Prop := -9223372036854775808 ≤ x ∧ x ≤ 9223372036854775807

set_option maxHeartbeats 1000000 in
theorem drawColumnValid_any (A : Option Addr) (m c : Nat) (w : World) (hr : RowB w w.heap.size A m) (hc : m ≤ c) (hx : m ≤ 1048576) :
    Calls Tryd.prog 23 #[.slice A m c] w fun e w' => ∃ s : ByteArray, (e = .returned (.string s) ∧ s.size ≤ 15) ∧ Below w.heap.size w w' := by
  have C := Lib.hid (open_S A m c w hr hc hx)
  clear hr
  go_enter Tryd.func23, Tryd.ntmps23
  go_wp2_with fail
  refine C.out.mono ?_
  rintro e w1 ⟨m1, c1, rfl, S1, b1⟩
  have C1 := Lib.hid (l1Any_S S1 (by omega)); have B1 := Lib.hid b1; clear S1 b1 C
  go_wp2_with fail
  refine C1.out.mono ?_
  rintro e w2 ⟨k, ⟨rfl, k1, k2⟩, S2, b2⟩
  have C2 := Lib.hid (l1Some_S S2 (by omega) k k1 k2); have B2 := Lib.hid (B1.out.trans b2); clear S2 b2 C1
  go_wp2_with fail
  refine C2.out.mono ?_
  rintro e w3 ⟨s, p3, ⟨rfl, hs⟩, ⟨hp3, S3⟩, b3⟩
  have C3 := Lib.hid (l1Bad_S S3 (by omega) s (by omega)); have B3 := Lib.hid (B2.out.trans b3); clear S3 b3 C2 hs
  go_wp2_with fail
  refine C3.out.mono ?_
  rintro e w4 ⟨t, p4, ⟨rfl, ht⟩, ⟨hp4, S4⟩, b4⟩
  have B4 := Lib.hid (B3.out.trans b4); clear S4 b4 C3
  go_wp2_with fail
  go_ret
  exact ⟨t, ⟨rfl, ht⟩, B4.out⟩

set_option maxHeartbeats 400000 in
theorem drawSignedOf_any (A : Option Addr) (m c : Nat) (w : World) (hr : RowB w w.heap.size A m) (hc : m ≤ c) (hx : m ≤ 1048576) :
    Calls Tryd.prog 10 #[.slice A m c] w fun e w' => ∃ s : ByteArray, (e = .returned (.string s) ∧ s.size ≤ 15) ∧ Below w.heap.size w w' := by
  have C := Lib.hid (drawColumnValid_any A m c w hr hc hx)
  clear hr
  go_enter Tryd.func10, Tryd.ntmps10
  go_wp2_with fail
  refine C.out.mono ?_
  rintro e w1 ⟨s, ⟨rfl, hs⟩, hb⟩
  have B := Lib.hid hb; clear hb C
  go_wp2_with fail
  go_ret
  exact ⟨s, ⟨rfl, hs⟩, B.out⟩