/- The walks of both texts of the first numbers of a list, of its differences, and so on. -/
import Derived.Test.YtbcmpgagceomgaaNext
namespace Go.Proofs.Ytbcmpgagceomgaa
open Go.RowKit

/-- A list whose cells lie in a block from lo on and below hi. -/
def RowIn (w : World) (lo hi : Nat) (A : Option Addr) (xs : List Int) : Prop :=
  ∀ k (h : k < xs.length), ∃ b o, A = some ⟨b, o, none⟩ ∧ lo ≤ b ∧ b < hi ∧ w.cell? ⟨b, o + k, none⟩ = some (.int .i64 xs[k])
theorem Row.low {w : World} {B : Nat} {A : Option Addr} {xs : List Int} (h : Row w B A xs) : RowIn w 0 B A xs := fun k hk => by
  obtain ⟨b, o, e, h1, h2⟩ := h k hk; exact ⟨b, o, e, Nat.zero_le _, h1, h2⟩
theorem RowIn.row {w : World} {lo hi : Nat} {A : Option Addr} {xs : List Int} (h : RowIn w lo hi A xs) : Row w hi A xs := fun k hk => by
  obtain ⟨b, o, e, _, h1, h2⟩ := h k hk; exact ⟨b, o, e, h1, h2⟩
theorem RowIn.next {w w' : World} {lo hi B : Nat} {A : Option Addr} {xs : List Int} (h : RowIn w lo hi A xs) (hb : Below B w w') (hB : hi ≤ B) : RowIn w' lo hi A xs := fun k hk => by
  obtain ⟨b, o, e, h0, h1, h2⟩ := h k hk
  exact ⟨b, o, e, h0, h1, by rw [hb.cell (p := ⟨b, o + k, none⟩) (Nat.lt_of_lt_of_le h1 hB)]; exact h2⟩
theorem RowIn.grown {w w' : World} {lo hi lo2 hi2 : Nat} {A : Option Addr} {v2 : Value} {xs xs2 : List Int} (h : RowIn w lo hi A xs) (hg : w.grownBy w' v2.ownBlock) (h2 : Own w lo2 hi2 v2 xs2) (hsep : hi ≤ lo2 ∨ hi2 ≤ lo) (hhi : hi ≤ w.heap.size) : RowIn w' lo hi A xs := fun k hk => by
  obtain ⟨b, o, e, h0, h1, hc⟩ := h k hk
  refine ⟨b, o, e, h0, h1, ?_⟩
  rw [World.cell?_of_block (w := w) (a := ⟨b, o + k, none⟩) (hg.block b (by omega) (fun e => by have := h2.blk b e.symm; omega))]
  exact hc
theorem Own.rowIn {w : World} {lo hi : Nat} {A : Option Addr} {n cap : Nat} {xs : List Int} (h : Own w lo hi (.slice A n cap) xs) : RowIn w lo hi A xs := fun k hk => by
  obtain ⟨g, e, h1, h2, h3⟩ := h.addr (by
    rcases h.1.2 with ⟨_, h0⟩ | ⟨g, cap', cur, h', _⟩
    · omega
    · simp only [Value.slice.injEq] at h'; omega)
  obtain ⟨b, o, e2, _, hc⟩ := h.row k hk
  rw [e] at e2
  simp only [Option.some.injEq, Addr.mk.injEq, and_true] at e2
  obtain ⟨rfl, rfl⟩ := e2
  exact ⟨g, 0, e, h1, h2, hc⟩
def lenOf : Value → Nat
  | .slice _ n _ => n
  | _ => 0

/-- The state of the loop: ds are done, row is to come. -/
def Firsts (w : World) (xs : List Int) (v r : Value) (wr : World) : Prop :=
  ∃ (ds row : List Int) (K : Int) (n2 c2 : Nat) (A2 : Option Addr) (m1 c1 : Nat) (A1 : Option Addr) (hi1 lo2 hi2 : Nat), r = .slice A2 n2 c2 ∧ v = .slice A1 m1 c1 ∧ n2 = row.length ∧ m1 = ds.length ∧ ds ++ firsts row = firsts xs ∧
    Own wr w.heap.size hi1 (.slice A1 m1 c1) ds ∧ hi1 ≤ wr.heap.size ∧ RowIn wr lo2 hi2 A2 row ∧ hi2 ≤ wr.heap.size ∧ (hi2 ≤ w.heap.size ∨ hi1 ≤ lo2) ∧ n2 ≤ 1000 ∧ K * 2 ^ n2 ≤ 16000000000000000000 ∧ 0 ≤ K ∧ (∀ x ∈ row, -K ≤ x ∧ x ≤ K) ∧ Below w.heap.size w wr
theorem first_bd {row : List Int} {K : Int} {n2 : Nat} (h2 : 2 ≤ n2) (hK : K * 2 ^ n2 ≤ 16000000000000000000) (h0 : 0 ≤ K) (hb : ∀ x ∈ row, -K ≤ x ∧ x ≤ K) : ∀ x ∈ row, -4000000000000000000 ≤ x ∧ x ≤ 4000000000000000000 := by
  intro x hx
  have h := hb x hx
  have e : K * 4 ≤ K * 2 ^ n2 := Int.mul_le_mul_of_nonneg_left (by
    have h4 : (2 : Nat) ^ 2 ≤ 2 ^ n2 := Nat.pow_le_pow_right (by decide) h2
    have e4 : ((2 ^ n2 : Nat) : Int) = (2 : Int) ^ n2 := by rw [Int.natCast_pow]; rfl
    rw [← e4]
    omega) h0
  omega
theorem firsts_step {w w3 w4 : World} {xs ds row : List Int} {K x0 : Int} {n2 : Nat} {m1 c3 c4 : Nat} {A3 A4 : Option Addr} (hp : 0 < n2) (e2 : n2 = row.length) (hx0 : ∀ h : 0 < row.length, row[0] = x0) (e1 : m1 = ds.length) (ef : ds ++ firsts row = firsts xs)
    (h1000 : n2 ≤ 1000) (hK : K * 2 ^ n2 ≤ 16000000000000000000) (hK0 : 0 ≤ K) (hbd : ∀ x ∈ row, -K ≤ x ∧ x ≤ K) (hw : Below w.heap.size w w3)
    (ho3 : Own w3 w.heap.size w3.heap.size (.slice A3 (m1 + 1) c3) (ds ++ [x0])) (ho4 : Own w4 w3.heap.size w4.heap.size (.slice A4 (n2 - 1) c4) (nextD row)) (hb4 : Below w3.heap.size w3 w4) :
    Firsts w xs (.slice A3 (m1 + 1) c3) (.slice A4 (n2 - 1) c4) w4 := by
  obtain ⟨k, rfl⟩ : ∃ k, n2 = k + 1 := ⟨n2 - 1, by omega⟩
  refine ⟨ds ++ [x0], nextD row, 2 * K, k + 1 - 1, c4, A4, m1 + 1, c3, A3, w3.heap.size, w3.heap.size, w4.heap.size, rfl, rfl, by rw [nextD_length, ← e2], by rw [List.length_append, e1]; rfl, ?_, ho3.below hb4 (Nat.le_refl _), hb4.size, ho4.rowIn, Nat.le_refl _, .inr (Nat.le_refl _), by omega, ?_, by omega, nextD_bd hbd, hw.trans (hb4.mono hw.size)⟩
  · rw [← ef, firsts_cons (xs := row) (by omega), hx0 (by omega), List.append_assoc]
    rfl
  · rw [Nat.add_sub_cancel, Int.mul_comm 2 K, Int.mul_assoc, Int.mul_comm 2, ← Int.pow_succ]
    exact hK

/-- make([]int, 0, n). -/
theorem make_room (n : Nat) (hn : n ≤ 1000000000) (W : World) :
    (Instr.makeSlice 22 (.int .i64 0) (.int .i64 (n : Int))).run Try.prog W = .ok (.slice (some ⟨W.heap.size, 0, none⟩) 0 n) (W.alloc (.cells (cI (List.replicate n 0)) 3)) := by
  obtain ⟨i0, hi, hz0, hz1, hz2⟩ := info_parts infoI
  have hr := run_make (P := Try.prog) W 22 3 i0 (.int .i64 0) Try.underlying22 hi hz0 .i64 .i64 0 n (by omega) (by omega) (by rw [hz2]; omega) (by omega)
  simp only [Int.toNat_natCast, Int.toNat_zero, hz1, Nat.mul_one] at hr
  rw [hr]
  show Result.ok _ (W.alloc (.cells (madeCells #[.int .i64 0] n) _)) = _
  rw [cI_made]
theorem Own.room (w : World) (n : Nat) (hn : n ≤ 1000000000) : Own (w.alloc (.cells (cI (List.replicate n 0)) 3)) w.heap.size (w.alloc (.cells (cI (List.replicate n 0)) 3)).heap.size (.slice (some ⟨w.heap.size, 0, none⟩) 0 n) [] :=
  ⟨World.ownsRow_made w (cI (List.replicate n 0)) n (Nat.le_refl _) (by unfold maxLen; omega) (by simp [cI, ints]), fun g hg => by
    have : w.heap.size = g := by simpa [Value.ownBlock] using hg
    have h2 := (Blk.new w 3 (cI (List.replicate n 0))).lt
    omega⟩

set_option maxHeartbeats 2000000 in
theorem firsts_impl (A : Option Addr) (n cap : Nat) (xs : List Int) (M : Int) (w : World) (hr : Row w w.heap.size A xs) (hn : n = xs.length) (hx : n ≤ 1000) (hM : M * 2 ^ n ≤ 16000000000000000000) (h0 : 0 ≤ M) (hb : ∀ x ∈ xs, -M ≤ x ∧ x ≤ M) :
    Calls Try.prog 44 #[.slice A n cap] w (Gives w (firsts xs)) := by
  have hmk := make_room n (by omega)
  have R := Lib.hid hr.low; have N := Lib.hid hn; have HM := Lib.hid hM; have HB := Lib.hid hb; clear hn hr hb hM
  go_enter Try.func44, Try.ntmps44
  go_wp2_with fail
  go_loopw [3, 4] (fun v r wr => Firsts w xs v r wr) (fun _ r _ => lenOf r)
  case atStart => exact ⟨[], xs, M, n, cap, A, 0, _, _, _, _, _, rfl, rfl, N.out, rfl, rfl, Own.room w n (by omega), Nat.le_refl _, R.out.next ((Below.refl w.heap.size w).alloc (Nat.le_refl _) _) (Nat.le_refl _), by simp, .inl (Nat.le_refl _), hx, HM.out, h0, HB.out, (Below.refl w.heap.size w).alloc (Nat.le_refl _) _⟩
  case round =>
    obtain ⟨ds, row, K, n2, c2, A2, m1, c1, A1, hi1, lo2, hi2, rfl, rfl, e2, e1, ef, ho, hhi, hrow, hhi2, hsep, h1000, hK, hK0, hbd, hw⟩ := hrel
    by_cases hp : 0 < n2
    · obtain ⟨b, o, rfl, hb1, hb2, hc⟩ := hrow 0 (by omega)
      rw [Nat.add_zero] at hc
      obtain ⟨x0, ex0⟩ : ∃ x0, row[0]'(by omega) = x0 := ⟨_, rfl⟩
      rw [ex0] at hc
      have hx0 : ∀ h : 0 < row.length, row[0] = x0 := fun _ => ex0
      have hp' : (0 : Int) < (n2 : Int) := by omega
      have bd : 2 ≤ n2 → ∀ x ∈ row, -4000000000000000000 ≤ x ∧ x ≤ 4000000000000000000 := fun h2 => first_bd h2 hK hK0 hbd
      have hz : ds.length ≤ 1000 := by have := congrArg List.length ef; rw [List.length_append, firsts_length, firsts_length] at this; have := N.out; omega
      have wa : Below wr.heap.size wr (wr.alloc (.cells #[.int .i64 x0] 3)) := (Below.refl wr.heap.size wr).alloc (Nat.le_refl _) _
      have oa := ho.below wa hhi
      have ra := hrow.next wa hhi2
      have ST := Lib.hid (fun w3 w4 A3 c3 A4 c4 => firsts_step (w := w) (w3 := w3) (w4 := w4) (A3 := A3) (c3 := c3) (A4 := A4) (c4 := c4) hp e2 hx0 e1 ef h1000 hK hK0 hbd)
      have O := Lib.hid oa; have HR := Lib.hid ra; have SP := Lib.hid hsep; have BD := Lib.hid bd; have HI2 := Lib.hid (Nat.le_trans hhi2 wa.size); have V := Lib.hid (hw.trans (wa.mono hw.size)); have E1 := Lib.hid e1; have E2 := Lib.hid e2; have Z := Lib.hid hz
      clear e1 e2 ef ho hrow hsep hK hbd bd hhi hhi2 hw wa oa ra ex0 hx0 hz hb1 hb2
      go_wp2_with (at_builtin; refine wpList_app rfl _ _ rfl rfl O.out V.out.size rfl rfl (Row.single wr x0 3) (by have := Z.out; simp; omega) (m1 + 1) (by rw [E1.out]; rfl) ?_; intro A3 c3 w3 ho3 hg3; have O3 := Lib.hid ho3; have G3 := Lib.hid hg3; clear ho3 hg3)
      have V3 := Lib.hid (below_grown V.out G3.out O.out V.out.size (Nat.le_refl _))
      refine (neighbors_any _ _ _ row _ ((HR.out.grown G3.out O.out SP.out HI2.out).row.more (Nat.le_trans HI2.out G3.out.size)) E2.out (by omega) BD.out).mono ?_
      rintro e w4 hgv
      obtain ⟨A4, c4, rfl, ho4, hb4⟩ := hgv.len (n2 - 1) (by rw [nextD_length, ← E2.out])
      have T := Lib.hid (ST.out w3 w4 A3 c3 A4 c4 V3.out O3.out ho4 hb4)
      clear hgv ho4 hb4
      go_wp2_with fail
      go_roundw
      case rel => exact T.out
      case measure => simp [lenOf]; omega
    · have h0r : row = [] := List.eq_nil_of_length_eq_zero (by omega)
      have hd : ds = firsts xs := by rw [← ef, h0r, firsts_nil, List.append_nil]
      subst hd
      have hp' : ¬ (0 : Int) < (n2 : Int) := by omega
      have O := Lib.hid (ho.loosen (Nat.le_refl _) hhi); have V := Lib.hid hw; have E1 := Lib.hid e1
      clear e1 e2 ef ho hrow hsep hK hbd hhi hhi2 hw h0r
      go_wp2_with fail
      go_ret
      exact Gives.mk rfl E1.out O.out V.out

set_option maxHeartbeats 2000000 in
theorem firsts_spec (A : Option Addr) (n cap : Nat) (xs : List Int) (M : Int) (w : World) (hr : Row w w.heap.size A xs) (hn : n = xs.length) (hx : n ≤ 1000) (hM : M * 2 ^ n ≤ 16000000000000000000) (h0 : 0 ≤ M) (hb : ∀ x ∈ xs, -M ≤ x ∧ x ≤ M) :
    Calls Try.prog 53 #[.slice A n cap] w (Gives w (firsts xs)) := by
  have R := Lib.hid hr.low; have N := Lib.hid hn; have HM := Lib.hid hM; have HB := Lib.hid hb; clear hn hr hb hM
  go_enter Try.func53, Try.ntmps53
  go_wp2_with fail
  go_loopw [0, 3] (fun r v wr => Firsts w xs v r wr) (fun r _ _ => lenOf r)
  case atStart => exact ⟨[], xs, M, n, cap, A, 0, _, _, _, _, _, rfl, rfl, N.out, rfl, rfl, Own.empty w, Nat.le_refl _, R.out.next ((Below.refl w.heap.size w).alloc (Nat.le_refl _) _) (Nat.le_refl _), by simp, .inl (Nat.le_refl _), hx, HM.out, h0, HB.out, (Below.refl w.heap.size w).alloc (Nat.le_refl _) _⟩
  case round =>
    obtain ⟨ds, row, K, n2, c2, A2, m1, c1, A1, hi1, lo2, hi2, rfl, rfl, e2, e1, ef, ho, hhi, hrow, hhi2, hsep, h1000, hK, hK0, hbd, hw⟩ := hrel
    by_cases hp : 0 < n2
    · obtain ⟨b, o, rfl, hb1, hb2, hc⟩ := hrow 0 (by omega)
      rw [Nat.add_zero] at hc
      obtain ⟨x0, ex0⟩ : ∃ x0, row[0]'(by omega) = x0 := ⟨_, rfl⟩
      rw [ex0] at hc
      have hx0 : ∀ h : 0 < row.length, row[0] = x0 := fun _ => ex0
      have hp' : (0 : Int) < (n2 : Int) := by omega
      have bd : 2 ≤ n2 → ∀ x ∈ row, -4000000000000000000 ≤ x ∧ x ≤ 4000000000000000000 := fun h2 => first_bd h2 hK hK0 hbd
      have hz : ds.length ≤ 1000 := by have := congrArg List.length ef; rw [List.length_append, firsts_length, firsts_length] at this; have := N.out; omega
      have wa : Below wr.heap.size wr (wr.alloc (.cells #[.int .i64 x0] 3)) := (Below.refl wr.heap.size wr).alloc (Nat.le_refl _) _
      have oa := ho.below wa hhi
      have ra := hrow.next wa hhi2
      have ST := Lib.hid (fun w3 w4 A3 c3 A4 c4 => firsts_step (w := w) (w3 := w3) (w4 := w4) (A3 := A3) (c3 := c3) (A4 := A4) (c4 := c4) hp e2 hx0 e1 ef h1000 hK hK0 hbd)
      have O := Lib.hid oa; have HR := Lib.hid ra; have SP := Lib.hid hsep; have BD := Lib.hid bd; have HI2 := Lib.hid (Nat.le_trans hhi2 wa.size); have V := Lib.hid (hw.trans (wa.mono hw.size)); have E1 := Lib.hid e1; have E2 := Lib.hid e2; have Z := Lib.hid hz
      clear e1 e2 ef ho hrow hsep hK hbd bd hhi hhi2 hw wa oa ra ex0 hx0 hz hb1 hb2
      go_wp2_with (at_builtin; refine wpList_app rfl _ _ rfl rfl O.out V.out.size rfl rfl (Row.single wr x0 3) (by have := Z.out; simp; omega) (m1 + 1) (by rw [E1.out]; rfl) ?_; intro A3 c3 w3 ho3 hg3; have O3 := Lib.hid ho3; have G3 := Lib.hid hg3; clear ho3 hg3)
      have V3 := Lib.hid (below_grown V.out G3.out O.out V.out.size (Nat.le_refl _))
      refine (l2Next_any _ _ _ row _ ((HR.out.grown G3.out O.out SP.out HI2.out).row.more (Nat.le_trans HI2.out G3.out.size)) E2.out (by omega) BD.out).mono ?_
      rintro e w4 hgv
      obtain ⟨A4, c4, rfl, ho4, hb4⟩ := hgv.len (n2 - 1) (by rw [nextD_length, ← E2.out])
      have T := Lib.hid (ST.out w3 w4 A3 c3 A4 c4 V3.out O3.out ho4 hb4)
      clear hgv ho4 hb4
      go_wp2_with fail
      go_roundw
      case rel => exact T.out
      case measure => simp [lenOf]; omega
    · have h0r : row = [] := List.eq_nil_of_length_eq_zero (by omega)
      have hd : ds = firsts xs := by rw [← ef, h0r, firsts_nil, List.append_nil]
      subst hd
      have hp' : ¬ (0 : Int) < (n2 : Int) := by omega
      have O := Lib.hid (ho.loosen (Nat.le_refl _) hhi); have V := Lib.hid hw; have E1 := Lib.hid e1
      clear e1 e2 ef ho hrow hsep hK hbd hhi hhi2 hw h0r
      go_wp2_with fail
      go_ret
      exact Gives.mk rfl E1.out O.out V.out
end Go.Proofs.Ytbcmpgagceomgaa
