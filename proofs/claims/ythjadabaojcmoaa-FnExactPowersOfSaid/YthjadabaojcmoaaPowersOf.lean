/- The walks of both texts of PowersOf. -/
import Derived.Test.YthjadabaojcmoaaPowPlain
import Derived.Test.YthjadabaojcmoaaScale
namespace Go.Proofs.Ythjadabaojcmoaa
open Go.RowKit

theorem Blk.row {w : World} {g : Nat} {t : TypeId} {xs : List Int} (h : Blk w g t (cI xs)) : Row w w.heap.size (some ⟨g, 0, none⟩) xs :=
  fun k hk => ⟨g, 0, rfl, h.lt, by rw [Nat.zero_add]; exact cI_cell h hk⟩
theorem Blk.num {w : World} {g : Nat} {t : TypeId} {xs : List Int} (h : Blk w g t (cI xs)) {i : Nat} (hi : i < xs.length) : w.cell? ⟨g, i, none⟩ = some (.int .i64 (at0 xs i)) := by
  rw [cI_cell h hi, at0_get hi]
theorem Blk.other {w : World} {g : Nat} {t : TypeId} {cs : Array Value} (h : Blk w g t cs) {a : Addr} (hne : g ≠ a.block) (u : Value) : Blk (w.setCell a u) g t cs :=
  (Below.heap_setCell _ _ _ _ hne).trans h
theorem Blk.putI {w : World} {g : Nat} {t : TypeId} {xs : List Int} (h : Blk w g t (cI xs)) (i : Nat) (x : Int) : Blk (w.setCell ⟨g, i, none⟩ (.int .i64 x)) g t (cI (xs.set i x)) := by
  have h2 := h.put i (.int .i64 x)
  rw [cI_set] at h2
  exact h2

theorem at0_set (L : List Int) (j : Nat) (x : Int) : at0 (L.set (j + 1) x) j = at0 L j := by
  unfold at0
  rw [List.getD_eq_getElem?_getD, List.getD_eq_getElem?_getD, List.getElem?_set_ne (by omega)]

set_option maxHeartbeats 2000000 in
theorem l2Times_any (g n cap : Nat) (c : List Int) (k : Nat) (w : World) (hb : Blk w g 3 (cI c)) (hn : n = c.length) (h8 : n ≤ 8) (hk : k ≤ 6) (hc : bd c 1000000) (hs : ∀ i, i < 9 → bd (tmS c k i) 1000000) :
    Calls Try.prog 62 #[.slice (some ⟨g, 0, none⟩) n cap, .int .i64 (k : Int)] w fun e w' => e = .returned (.slice (some ⟨w.heap.size, 0, none⟩) (n + 1) (n + 1)) ∧ Blk w' w.heap.size 3 (cI (tmS c k n)) ∧ Below w.heap.size w w' := by
  have hmk := make_ints (n + 1) (by omega) ((n : Int) + 1) (by omega)
  have hg := hb.lt
  have N := Lib.hid hn; have B := Lib.hid hb; have C := Lib.hid hc; have S := Lib.hid hs; clear hn hb hc hs
  go_enter Try.func62, Try.ntmps62
  go_wp2_with fail
  go_loopw [6] (fun i wr => ∃ j : Nat, j ≤ n ∧ i = .int .i64 j ∧ Blk wr w.heap.size 3 (cI (tmS c k j)) ∧ Below w.heap.size w wr) (fun i _ => n - (intOf i).toNat)
  case atStart => exact ⟨0, Nat.zero_le _, rfl, by rw [tmS, ← N.out]; exact Blk.new _ _ _, (Below.refl _ _).alloc (Nat.le_refl _) _⟩
  case round =>
    obtain ⟨j, hj, rfl, hblk, hw⟩ := hrel
    by_cases hlt : j < n
    · have hl : (tmS c k j).length = n + 1 := by rw [tmS_length, ← N.out]
      have hcb := B.out.keep hw hg
      have hx := hcb.num (i := j) (by rw [← N.out]; exact hlt)
      have hu := hblk.num (i := j + 1) (by omega)
      have hf := hblk.free (j + 1)
      have bx := at0_bd C.out (by decide) j
      have bu := at0_bd (S.out j (by omega)) (by decide) (j + 1)
      have bv := at0_bd (S.out j (by omega)) (by decide) j
      have bp := mul_bd (k : Int) (at0 c j) 6 1000000 (by decide) (by decide) (by omega) (by omega) bx.1 bx.2
      have HB1 := Lib.hid (hblk.putI (j + 1) (at0 (tmS c k j) (j + 1) + at0 c j))
      have HC1 := Lib.hid (hcb.other (a := ⟨w.heap.size, j + 1, none⟩) (by show g ≠ w.heap.size; omega) (.int .i64 (at0 (tmS c k j) (j + 1) + at0 c j)))
      have V := Lib.hid hw; clear hblk hw hl hcb
      go_wp2_with fail
      go_region
      obtain ⟨wr2, hW⟩ : ∃ wr2, (wr.setCell ⟨w.heap.size, j + 1, none⟩ (.int .i64 (at0 (tmS c k j) (j + 1) + at0 c j))).drew = wr2 := ⟨_, rfl⟩
      have hb2 : Blk wr2 w.heap.size 3 (cI ((tmS c k j).set (j + 1) (at0 (tmS c k j) (j + 1) + at0 c j))) := by rw [← hW]; exact HB1.out
      have hc2 : Blk wr2 g 3 (cI c) := by rw [← hW]; exact HC1.out
      have V2 : Hid (Below w.heap.size w wr2) := by rw [← hW]; exact (V.out.setCell (p := ⟨w.heap.size, j + 1, none⟩) (Nat.le_refl _) _).drew
      have hv2 : wr2.cell? ⟨w.heap.size, j, none⟩ = some (.int .i64 (at0 (tmS c k j) j)) := by rw [hb2.num (i := j) (by rw [List.length_set]; have := tmS_length c k j; have := N.out; omega), at0_set]
      rw [hW]
      have hx2 := hc2.num (i := j) (by rw [← N.out]; exact hlt)
      have hf2 := hb2.free j
      have ST : Hid (Blk (wr2.setCell ⟨w.heap.size, j, none⟩ (.int .i64 (at0 (tmS c k j) j - k * at0 c j))) w.heap.size 3 (cI (tmS c k (j + 1)))) := hb2.putI j (at0 (tmS c k j) j - k * at0 c j)
      clear hb2 hc2 hx hu hf HB1 HC1 hW V
      go_wp2_with fail
      go_region
      go_wp2_with fail
      go_roundw
      case rel => exact ⟨j + 1, by omega, by go_num, ST.out, (V2.out.setCell (p := ⟨w.heap.size, j, none⟩) (Nat.le_refl _) _).drew⟩
      case measure => simp [intOf] <;> omega
    · obtain rfl : j = n := by omega
      have HB := Lib.hid hblk; have V := Lib.hid hw; clear hblk hw
      go_wp2_with fail
      go_ret
      exact ⟨rfl, HB.out, V.out⟩

theorem Row.num {w : World} {B b o : Nat} {xs : List Int} (h : Row w B (some ⟨b, o, none⟩) xs) {k : Nat} (hk : k < xs.length) : w.cell? ⟨b, o + k, none⟩ = some (.int .i64 (at0 xs k)) := by
  obtain ⟨b', o', e, _, hc⟩ := h k hk
  simp only [Option.some.injEq, Addr.mk.injEq, and_true] at e
  obtain ⟨rfl, rfl⟩ := e
  rw [hc, at0_get hk]
theorem tm_step {w : World} {g : Nat} {t : TypeId} {c : List Int} {k : Int} {j : Nat} (h : Blk w g t (cI ((tmS c k j).set (j + 1) (at0 (tmS c k j) (j + 1) + at0 c j)))) :
    Blk (w.setCell ⟨g, j, none⟩ (.int .i64 (at0 (tmS c k j) j - k * at0 c j))) g t (cI (tmS c k (j + 1))) := h.putI j _
theorem inn_step {w : World} {g : Nat} {t : TypeId} {c L : List Int} {d : Int} {j : Nat} (h : Blk w g t (cI (inn c d L j))) :
    Blk (w.setCell ⟨g, j, none⟩ (.int .i64 (at0 (inn c d L j) j + d * at0 c j))) g t (cI (inn c d L (j + 1))) := h.putI j _
theorem dv_step {w : World} {g : Nat} {t : TypeId} {T : List Int} {m : Int} {q : Nat} (h : Blk w g t (cI (dvS T m q))) :
    Blk (w.setCell ⟨g, q, none⟩ (.int .i64 ((at0 (dvS T m q) q).tdiv m))) g t (cI (dvS T m (q + 1))) := h.putI q _
theorem outS_zero (p : List Int) : outS p 0 = List.replicate p.length 0 := rfl
theorem outS_next (p : List Int) (k : Nat) : inn (rowC k) (at0 p k) (outS p k) (k + 1) = outS p (k + 1) := rfl
theorem inn_zero (c : List Int) (d : Int) (L : List Int) : inn c d L 0 = L := rfl
theorem rowC_zero : rowC 0 = [720] := rfl
theorem rowS_zero : rowS 0 = [1] := rfl
theorem tmS_zero (c : List Int) (k : Int) : tmS c k 0 = List.replicate (c.length + 1) 0 := rfl
theorem dvS_zero (T : List Int) (m : Int) : dvS T m 0 = T := rfl
theorem rowC_next (k : Nat) : dvS (tmS (rowC k) k (k + 1)) ((k : Int) + 1) (k + 1 + 1) = rowC (k + 1) := rfl
theorem rowS_next (k : Nat) : tmS (rowS k) k (k + 1) = rowS (k + 1) := rfl
theorem fct_zero : fct 0 = 1 := rfl
theorem fct_next (k : Nat) : fct k * ((k : Int) + 1) = fct (k + 1) := rfl
attribute [local irreducible] tmS dvS rowS rowC fct inn outS at0

def powP (p : List Int) : List Int := if polyB p = true then powW p else []
theorem powP_length (p : List Int) : (powP p).length ≤ 7 := by
  unfold powP
  split
  · rename_i h
    rw [powW_length]
    exact (poly_len h).2
  · decide

set_option maxHeartbeats 4000000 in
theorem powersOf_spec (A : Option Addr) (n cap : Nat) (p : List Int) (w : World) (hr : Row w w.heap.size A p) (hn : n = p.length) (hx : n ≤ 10000000) :
    Calls Try.prog 37 #[.slice A n cap] w (Gives w (powP p)) := by
  have hmk := make_ints n (by omega) (n : Int) rfl
  have hr1 := hr.keep (w' := w.alloc (.cells (cI (List.replicate n 0)) 3)) ((Below.refl _ _).alloc (Nat.le_refl _) _)
  cases h : polyB p
  · rw [show powP p = [] by unfold powP; rw [h]; rfl]
    have hE := empty_left (((Below.refl w.heap.size w).alloc (Nat.le_refl _) (.cells (cI (List.replicate n 0)) 3)))
    rw [show (w.alloc (.cells (cI (List.replicate n 0)) 3)).heap.size = w.heap.size + 1 by simp] at hE
    have E := Lib.hid hE; clear hE
    have N := Lib.hid hn; have R := Lib.hid hr1; have H := Lib.hid h; clear hn hr hr1 h
    go_enter Try.func37, Try.ntmps37
    go_wp2_with (go_at_call 43; refine (pvS _ _ _ p _ _ R.out N.out hx).mono ?_; rintro e w' ⟨rfl, rfl⟩; rw [H.out])
    go_ret
    exact ⟨_, _, rfl, E.out.1, E.out.2⟩
  · rw [show powP p = powW p by unfold powP; rw [h]; rfl]
    have hl := poly_len h
    have hn7 : n ≤ 7 := by omega
    obtain ⟨b, o, rfl⟩ := poly_addr hr hl.1
    have PB : Hid (bd p 100000) := poly_bd h
    have N := Lib.hid hn; have R := Lib.hid hr; have R1 := Lib.hid hr1; have H := Lib.hid h; clear hn hr hr1 h hl
    go_enter Try.func37, Try.ntmps37
    go_wp2_with (go_at_call 43; refine (pvS _ _ _ p _ _ R1.out N.out hx).mono ?_; rintro e w' ⟨rfl, rfl⟩; rw [H.out])
    go_loopw [4, 5] (fun v i wr => ∃ (k m g1 : Nat), k ≤ n ∧ m = k + 1 ∧ i = .int .i64 k ∧ v = .slice (some ⟨g1, 0, none⟩) m m ∧ w.heap.size < g1 ∧ Blk wr g1 3 (cI (rowC k)) ∧ Blk wr w.heap.size 3 (cI (outS p k)) ∧ Below w.heap.size w wr) (fun _ i _ => n - (intOf i).toNat)
    case atStart =>
      refine ⟨0, 1, w.heap.size + 1, Nat.zero_le _, rfl, rfl, by simp, by omega, ?_, ?_, ((Below.refl _ _).alloc (Nat.le_refl _) _).alloc (by simp) _⟩
      · have := Blk.new (w.alloc (.cells (cI (List.replicate n 0)) 3)) 3 #[.int .i64 720]
        rw [show (w.alloc (.cells (cI (List.replicate n 0)) 3)).heap.size = w.heap.size + 1 by simp] at this
        rw [rowC_zero]
        exact this
      · rw [outS_zero, ← N.out]
        exact (Blk.new w 3 (cI (List.replicate n 0))).keep ((Below.refl (w.heap.size + 1) _).alloc (by simp) _) (by omega)
    case round =>
      obtain ⟨k, m, g1, hk, hm, rfl, rfl, hg1, hb1, hb0, hw⟩ := hrel
      by_cases hlt : k < n
      · have OK := Lib.hid (okAt (k := k) (by omega))
        have L1 : Hid (m = (rowC k).length) := by show _ = _; rw [rowC_length]; exact hm
        have hmn : m ≤ n := by omega
        have B1 := Lib.hid hb1; have B0 := Lib.hid hb0; have V := Lib.hid hw; have HM := Lib.hid hm; clear hb1 hb0 hw hm
        go_wp2_with fail
        go_loopw [6] (fun i wr => ∃ j : Nat, j ≤ m ∧ i = .int .i64 j ∧ Blk wr g1 3 (cI (rowC k)) ∧ Blk wr w.heap.size 3 (cI (inn (rowC k) (at0 p k) (outS p k) j)) ∧ Below w.heap.size w wr) (fun i _ => m - (intOf i).toNat)
        case atStart => exact ⟨0, Nat.zero_le _, rfl, B1.out, by rw [inn_zero]; exact B0.out, V.out⟩
        case round =>
          obtain ⟨j, hj, rfl, hb1, hb0, hw⟩ := hrel
          by_cases hjm : j < m
          · have hjl : j < (inn (rowC k) (at0 p k) (outS p k) j).length := by rw [inn_length, outS_length, ← N.out]; omega
            have hpc := (R.out.keep hw).num (k := k) (by rw [← N.out]; exact hlt)
            have hcc := hb1.num (i := j) (by rw [← L1.out]; exact hjm)
            have hold := hb0.num hjl
            have hfree := hb0.free j
            have bx := at0_bd OK.out.1 (by decide) j
            have bp := at0_bd PB.out (by decide) k
            have bi := inn_at PB.out (k := k) (by omega) j (by omega) j
            have bm := prod_bd bp.1 bp.2 bx.1 bx.2
            have ST : Hid (Blk (wr.setCell ⟨w.heap.size, j, none⟩ (.int .i64 (at0 (inn (rowC k) (at0 p k) (outS p k) j) j + at0 p k * at0 (rowC k) j))) w.heap.size 3 (cI (inn (rowC k) (at0 p k) (outS p k) (j + 1)))) := inn_step hb0
            have S1 := Lib.hid (fun x => hb1.other (a := ⟨w.heap.size, j, none⟩) (by show g1 ≠ w.heap.size; omega) (.int .i64 x))
            have V := Lib.hid hw; clear hb1 hb0 hw
            go_wp2_with fail
            go_region
            go_wp2_with fail
            go_roundw
            case rel => exact ⟨j + 1, by omega, by go_num, S1.out _, ST.out, (V.out.setCell (p := ⟨w.heap.size, j, none⟩) (Nat.le_refl _) _).drew⟩
            case measure => simp [intOf] <;> omega
          · obtain rfl : j = m := by omega
            have T : Hid (∃ g2, w.heap.size < g2 ∧ Calls Try.prog 62 #[.slice (some ⟨g1, 0, none⟩) j j, .int .i64 (k : Int)] wr fun e w' => e = .returned (.slice (some ⟨g2, 0, none⟩) (j + 1) (j + 1)) ∧ Blk w' g2 3 (cI (tmS (rowC k) k j)) ∧ Blk w' w.heap.size 3 (cI (outS p (k + 1))) ∧ Below w.heap.size w w') := by
              refine ⟨wr.heap.size, hb0.lt, (l2Times_any g1 j j (rowC k) k wr hb1 L1.out (by omega) (by omega) OK.out.1 (fun i hi => (OK.out.2.2.2.2 i hi).1)).mono ?_⟩
              rintro e w' ⟨rfl, h1, h2⟩
              refine ⟨rfl, h1, ?_, hw.trans (h2.mono hw.size)⟩
              have h3 := hb0.keep h2 hb0.lt
              rw [HM.out, outS_next] at h3
              exact h3
            clear hb1 hb0 hw
            obtain ⟨g2, hg2, CT⟩ := T.out
            have CT := Lib.hid CT; clear T
            go_wp2_with (go_at_call 62; refine CT.out.mono ?_; rintro e w2 ⟨rfl, h1, h2, h3⟩; have H1 := Lib.hid h1; have H2 := Lib.hid h2; have H3 := Lib.hid h3; clear h1 h2 h3)
            go_loopw [7] (fun i wr => ∃ q : Nat, q ≤ j + 1 ∧ i = .int .i64 q ∧ Blk wr g2 3 (cI (dvS (tmS (rowC k) k (k + 1)) ((k : Int) + 1) q)) ∧ Blk wr w.heap.size 3 (cI (outS p (k + 1))) ∧ Below w.heap.size w wr) (fun i _ => j + 1 - (intOf i).toNat)
            case atStart => exact ⟨0, Nat.zero_le _, rfl, by have h := H1.out; rw [HM.out] at h; rw [dvS_zero]; exact h, H2.out, H3.out⟩
            case round =>
              obtain ⟨q, hq, rfl, hb1, hb0, hw⟩ := hrel
              by_cases hqm : q < j + 1
              · have hql : q < (dvS (tmS (rowC k) k (k + 1)) ((k : Int) + 1) q).length := by rw [dvS_length, tmS_length, rowC_length]; have := HM.out; omega
                have hold := hb1.num hql
                have hfree := hb1.free q
                have bx := at0_bd (OK.out.2.2.2.2 q (by omega)).2.2.1 (by decide) q
                have hd := tdiv_bd (at0 (dvS (tmS (rowC k) k (k + 1)) ((k : Int) + 1) q) q) ((k : Int) + 1) 1000000 (by omega) bx.1 bx.2
                have ST : Hid (Blk (wr.setCell ⟨g2, q, none⟩ (.int .i64 ((at0 (dvS (tmS (rowC k) k (k + 1)) ((k : Int) + 1) q) q).tdiv ((k : Int) + 1)))) g2 3 (cI (dvS (tmS (rowC k) k (k + 1)) ((k : Int) + 1) (q + 1)))) := dv_step hb1
                have S0 := Lib.hid (fun x => hb0.other (a := ⟨g2, q, none⟩) (by show w.heap.size ≠ g2; omega) (.int .i64 x))
                have V := Lib.hid hw; clear hb1 hb0 hw
                go_wp2_with fail
                go_roundw
                case rel => exact ⟨q + 1, by omega, by go_num, ST.out, S0.out _, V.out.setCell (p := ⟨g2, q, none⟩) (by show w.heap.size ≤ g2; omega) _⟩
                case measure => simp [intOf] <;> omega
              · obtain rfl : q = j + 1 := by omega
                have B1 := Lib.hid hb1; have B0 := Lib.hid hb0; have V := Lib.hid hw; clear hb1 hb0 hw
                go_wp2_with fail
                go_roundw
                case rel => exact ⟨k + 1, j + 1, g2, by omega, by have := HM.out; omega, by go_num, rfl, hg2, by have h := B1.out; rw [HM.out, rowC_next] at h; exact h, B0.out, V.out⟩
                case measure => simp [intOf] <;> omega
      · obtain rfl : k = n := by omega
        have O := Lib.hid (own_part hb0 (by rw [outS_length, ← N.out]) hx); have V := Lib.hid hw; clear hb1 hb0 hw
        go_wp2_with fail
        go_ret
        have e : outS p k = powW p := by unfold powW; rw [← N.out]
        exact Gives.mk rfl (by rw [powW_length]; exact N.out) (by rw [← e]; exact O.out) V.out

set_option maxHeartbeats 4000000 in
theorem powersOf_impl (A : Option Addr) (n cap : Nat) (p : List Int) (w : World) (hr : Row w w.heap.size A p) (hn : n = p.length) (hx : n ≤ 10000000) :
    Calls Try.prog 38 #[.slice A n cap] w (Gives w (powP p)) := by
  cases h : polyB p
  · rw [show powP p = [] by unfold powP; rw [h]; rfl]
    have N := Lib.hid hn; have R := Lib.hid hr; have H := Lib.hid h; clear hn hr h
    go_enter Try.func38, Try.ntmps38
    go_wp2_with (go_at_call 44; refine (pvI _ _ _ p _ _ R.out N.out hx).mono ?_; rintro e w' ⟨rfl, rfl⟩; rw [H.out])
    go_ret
    exact ⟨_, _, rfl, Own.none_ _ _ _, Below.refl _ _⟩
  · rw [show powP p = powW p by unfold powP; rw [h]; rfl]
    have hmk := make_ints n (by omega) (n : Int) rfl
    have hl := poly_len h
    have hn7 : n ≤ 7 := by omega
    obtain ⟨b, o, rfl⟩ := poly_addr hr hl.1
    have PB : Hid (bd p 100000) := poly_bd h
    have N := Lib.hid hn; have R := Lib.hid hr; have H := Lib.hid h; clear hn hr h hl
    go_enter Try.func38, Try.ntmps38
    go_wp2_with (go_at_call 44; refine (pvI _ _ _ p _ _ R.out N.out hx).mono ?_; rintro e w' ⟨rfl, rfl⟩; rw [H.out])
    go_loopw [4, 5, 22] (fun v f i wr => ∃ (k m g1 : Nat), k ≤ n ∧ m = k + 1 ∧ i = .int .i64 k ∧ f = .int .i64 (fct k) ∧ v = .slice (some ⟨g1, 0, none⟩) m m ∧ w.heap.size < g1 ∧ Blk wr g1 3 (cI (rowS k)) ∧ Blk wr w.heap.size 3 (cI (outS p k)) ∧ Below w.heap.size w wr) (fun _ _ i _ => n - (intOf i).toNat)
    case atStart =>
      refine ⟨0, 1, w.heap.size + 1, Nat.zero_le _, rfl, rfl, by rw [fct_zero], by simp, by omega, ?_, ?_, ((Below.refl _ _).alloc (Nat.le_refl _) _).alloc (by simp) _⟩
      · have := Blk.new (w.alloc (.cells (cI (List.replicate n 0)) 3)) 3 #[.int .i64 1]
        rw [show (w.alloc (.cells (cI (List.replicate n 0)) 3)).heap.size = w.heap.size + 1 by simp] at this
        rw [rowS_zero]
        exact this
      · rw [outS_zero, ← N.out]
        exact (Blk.new w 3 (cI (List.replicate n 0))).keep ((Below.refl (w.heap.size + 1) _).alloc (by simp) _) (by omega)
    case round =>
      obtain ⟨k, m, g1, hk, hm, rfl, rfl, rfl, hg1, hb1, hb0, hw⟩ := hrel
      by_cases hlt : k < n
      · have OK := Lib.hid (okAt (k := k) (by omega))
        have L1 : Hid (m = (rowS k).length) := by show _ = _; rw [rowS_length]; exact hm
        have hmn : m ≤ n := by omega
        have hpc := (R.out.keep hw).num (k := k) (by rw [← N.out]; exact hlt)
        have f1 := OK.out.2.2.1
        have f2 := OK.out.2.2.2.1
        have FN := Lib.hid (fct_next k)
        have hfm := mul_bd (fct k) ((k : Int) + 1) 720 7 (by decide) (by decide) (by omega) f2 (by omega) (by omega)
        have hfq := tdiv_bd 720 (fct k) 720 f1 (by decide) (by decide)
        have hmk2 := make_ints (m + 1) (by omega) ((m : Int) + 1) (by omega)
        have bp := at0_bd PB.out (by decide) k
        have EQ : Hid (∀ i, i < 9 → at0 (rowC k) i = Int.tdiv 720 (fct k) * at0 (rowS k) i) := fun i hi => (OK.out.2.2.2.2 i hi).2.2.2
        generalize fct k = f at *
        have q1 := mul_bd (at0 p k) (Int.tdiv 720 f) 100000 720 (by decide) (by decide) bp.1 bp.2 hfq.1 hfq.2
        have B1 := Lib.hid hb1; have B0 := Lib.hid hb0; have V := Lib.hid hw; have HM := Lib.hid hm; clear hb1 hb0 hw hm
        go_wp2_with fail
        go_loopw [29] (fun i wr => ∃ j : Nat, j ≤ m ∧ i = .int .i64 j ∧ Blk wr g1 3 (cI (rowS k)) ∧ Blk wr w.heap.size 3 (cI (inn (rowC k) (at0 p k) (outS p k) j)) ∧ Below w.heap.size w wr) (fun i _ => m - (intOf i).toNat)
        case atStart => exact ⟨0, Nat.zero_le _, rfl, B1.out, by rw [inn_zero]; exact B0.out, V.out⟩
        case round =>
          obtain ⟨j, hj, rfl, hb1, hb0, hw⟩ := hrel
          by_cases hjm : j < m
          · have hjl : j < (inn (rowC k) (at0 p k) (outS p k) j).length := by rw [inn_length, outS_length, ← N.out]; omega
            have hcc := hb1.num (i := j) (by rw [← L1.out]; exact hjm)
            have hold := hb0.num hjl
            have hfree := hb0.free j
            have bx := at0_bd OK.out.1 (by decide) j
            have bi := inn_at PB.out (k := k) (by omega) j (by omega) j
            have bm := prod_bd bp.1 bp.2 bx.1 bx.2
            have eq : at0 p k * Int.tdiv 720 f * at0 (rowS k) j = at0 p k * at0 (rowC k) j := by rw [EQ.out j (by omega), Int.mul_assoc]
            rw [← eq] at bm
            have ST := inn_step hb0
            rw [← eq] at ST
            have ST := Lib.hid ST
            have S1 := Lib.hid (fun x => hb1.other (a := ⟨w.heap.size, j, none⟩) (by show g1 ≠ w.heap.size; omega) (.int .i64 x))
            have V := Lib.hid hw; clear hb1 hb0 hw eq bx
            go_wp2_with fail
            go_region
            go_wp2_with fail
            go_roundw
            case rel => exact ⟨j + 1, by omega, by go_num, S1.out _, ST.out, (V.out.setCell (p := ⟨w.heap.size, j, none⟩) (Nat.le_refl _) _).drew⟩
            case measure => simp [intOf] <;> omega
          · obtain rfl : j = m := by omega
            have H0 : Hid (Blk wr w.heap.size 3 (cI (outS p (k + 1)))) := by
              have h3 := hb0
              rw [HM.out, outS_next] at h3
              exact h3
            have Z : Hid (Blk (wr.alloc (.cells (cI (List.replicate (j + 1) 0)) 3)) wr.heap.size 3 (cI (tmS (rowS k) k 0))) := by
              show Blk _ _ _ _
              rw [tmS_zero, ← L1.out]; exact Blk.new _ _ _
            have A1 := Lib.hid (Blk.keep (B := wr.heap.size) hb1 ((Below.refl wr.heap.size wr).alloc (Nat.le_refl _) (.cells (cI (List.replicate (j + 1) 0)) 3)) hb1.lt)
            have A0 := Lib.hid (Blk.keep (B := wr.heap.size) H0.out ((Below.refl wr.heap.size wr).alloc (Nat.le_refl _) (.cells (cI (List.replicate (j + 1) 0)) 3)) hb0.lt)
            have V := Lib.hid (hw.alloc hw.size (.cells (cI (List.replicate (j + 1) 0)) 3))
            have hg2 : w.heap.size < wr.heap.size := hb0.lt
            have hg12 : g1 < wr.heap.size := hb1.lt
            clear hb1 hb0 hw H0
            go_wp2_with fail
            generalize hwa : wr.alloc (.cells (cI (List.replicate (j + 1) 0)) 3) = wr1 at *
            generalize wr.heap.size = g2 at *
            clear hwa
            go_loopw [53] (fun i wr => ∃ q : Nat, q ≤ j ∧ i = .int .i64 q ∧ Blk wr g2 3 (cI (tmS (rowS k) k q)) ∧ Blk wr g1 3 (cI (rowS k)) ∧ Blk wr w.heap.size 3 (cI (outS p (k + 1))) ∧ Below w.heap.size w wr) (fun i _ => j - (intOf i).toNat)
            case atStart => exact ⟨0, Nat.zero_le _, rfl, Z.out, A1.out, A0.out, V.out⟩
            case round =>
              obtain ⟨q, hq, rfl, hb2, hb1, hb0, hw⟩ := hrel
              by_cases hqm : q < j
              · have hql : q + 1 < (tmS (rowS k) k q).length := by rw [tmS_length, ← L1.out]; omega
                have hcc := hb1.num (i := q) (by rw [← L1.out]; exact hqm)
                have hu := hb2.num hql
                have hf1 := hb2.free (q + 1)
                have bx := at0_bd OK.out.2.1 (by decide) q
                have bu := at0_bd (OK.out.2.2.2.2 q (by omega)).2.1 (by decide) (q + 1)
                have bv := at0_bd (OK.out.2.2.2.2 q (by omega)).2.1 (by decide) q
                have bm := mul_bd (k : Int) (at0 (rowS k) q) 7 1000000 (by decide) (by decide) (by omega) (by omega) bx.1 bx.2
                have hb3 := hb2.putI (q + 1) (at0 (tmS (rowS k) k q) (q + 1) + at0 (rowS k) q)
                have hv := hb3.num (i := q) (by rw [List.length_set]; omega)
                rw [at0_set] at hv
                have hv0 := hb2.num (i := q) (by omega)
                have hf3 := hb3.free q
                have hf0 := hb2.free q
                have ST := tm_step hb3
                rw [Int.mul_comm (k : Int) (at0 (rowS k) q)] at ST bm
                have ST := Lib.hid ST
                have S1 := Lib.hid (fun x y => (hb1.other (a := ⟨g2, q + 1, none⟩) (by show g1 ≠ g2; omega) (.int .i64 x)).other (a := ⟨g2, q, none⟩) (by show g1 ≠ g2; omega) (.int .i64 y))
                have S0 := Lib.hid (fun x y => (hb0.other (a := ⟨g2, q + 1, none⟩) (by show w.heap.size ≠ g2; omega) (.int .i64 x)).other (a := ⟨g2, q, none⟩) (by show w.heap.size ≠ g2; omega) (.int .i64 y))
                have V := Lib.hid hw; clear hb1 hb0 hw hb2 hb3
                go_wp2_with fail
                go_roundw
                case rel => exact ⟨q + 1, by omega, by go_num, ST.out, S1.out _ _, S0.out _ _, (V.out.setCell (p := ⟨g2, q + 1, none⟩) (by show w.heap.size ≤ g2; omega) _).setCell (p := ⟨g2, q, none⟩) (by show w.heap.size ≤ g2; omega) _⟩
                case measure => simp [intOf] <;> omega
              · obtain rfl : q = j := by omega
                have B2 := Lib.hid hb2; have B0 := Lib.hid hb0; have V := Lib.hid hw; clear hb2 hb1 hb0 hw
                go_wp2_with fail
                go_roundw
                case rel => exact ⟨k + 1, q + 1, g2, by omega, by have := HM.out; omega, by go_num, by rw [FN.out], rfl, hg2, by have h := B2.out; rw [HM.out, rowS_next] at h; exact h, B0.out, V.out⟩
                case measure => simp [intOf] <;> omega
      · obtain rfl : k = n := by omega
        have O := Lib.hid (own_part hb0 (by rw [outS_length, ← N.out]) hx); have V := Lib.hid hw; clear hb1 hb0 hw
        go_wp2_with fail
        go_ret
        have e : outS p k = powW p := by unfold powW; rw [← N.out]
        exact Gives.mk rfl (by rw [powW_length]; exact N.out) (by rw [← e]; exact O.out) V.out
end Go.Proofs.Ythjadabaojcmoaa
