/- The statement FnExactShiftPoly: for all arguments the program's ShiftPoly returns what the reference's returns, in memory of its own, and leaves its arguments alone. No conditions. -/
import Derived.Test.YtbcmpgagceomgaaHas
import Derived.Test.YtbcmpgagceomgaaShift
namespace Go.Proofs.Ytbcmpgagceomgaa
open Go.ChangeShapes Go.WideShapes Go.ChangeAt Go.RowKit

set_option maxHeartbeats 4000000 in
theorem walk_FnExactShiftPoly (w : World) (A0 : Option Addr) (n0 cap0 : Nat) (zs0 : List Int) (hz0 : IsRow .i64 w A0 n0 cap0 zs0) (z1 : Int) (_hz1 : (Lit.int .i64 z1).wf = true) :
    Calls Try.prog 3 #[.slice A0 n0 cap0, .int .i64 z1] w fun e w' => e = .returned (.bool true) ∧ Below w.heap.size w w' := by
  obtain ⟨xs0, rfl, hr0, _⟩ := hz0.row
  clear hz0
  have R0 := Lib.hid hr0; clear hr0
  by_cases hx0 : xs0.length ≤ 1048576
  rotate_left
  · go_enter Try.func3, Try.ntmps3
    go_wp2_with fail
    go_ret
    exact ⟨rfl, Below.refl _ _⟩
  have B0 := Lib.hid (Below.refl w.heap.size w)
  go_enter Try.func3, Try.ntmps3
  go_wp2_with fail
  refine (toIntS_any A0 cap0 xs0 _ (R0.out.still B0.out) hx0).mono ?_
  rintro e w1 ⟨A_a0, c_a0, rfl, ho1, hb1⟩
  have H := Lib.hid (Has.new (B0 := w.heap.size) ho1 B0.out.size); have S1 := Lib.hid hb1.size; have H_a0 := H; clear H; have B1 := Lib.hid (B0.out.trans (hb1.mono B0.out.size)); clear ho1 hb1
  go_wp2_with fail
  refine (shiftPoly_spec A_a0 _ c_a0 xs0 z1 _ H_a0.out.row rfl H_a0.out.1.cap (by omega)).mono ?_
  rintro e w2 ⟨A_r, c_r, rfl, ho2, hb2⟩
  have H := Lib.hid (Has.new (B0 := w.heap.size) ho2 B1.out.size); clear H_a0; have S2 := Lib.hid hb2.size; have H_r := H; clear H; have B2 := Lib.hid (B1.out.trans (hb2.mono B1.out.size)); clear ho2 hb2
  go_wp2_with fail
  refine (toIntS_any A0 cap0 xs0 _ (R0.out.still B2.out) hx0).mono ?_
  rintro e w3 ⟨A_x0, c_x0, rfl, ho3, hb3⟩
  have H := Lib.hid (Has.new (B0 := w.heap.size) ho3 B2.out.size); have S3 := Lib.hid hb3.size; have t := Lib.hid (H_r.out.next hb3); clear H_r; have H_r := t; clear t; have H_x0 := H; clear H; have B3 := Lib.hid (B2.out.trans (hb3.mono B2.out.size)); clear ho3 hb3
  go_wp2_with fail
  refine (shiftPoly_impl A_x0 _ c_x0 xs0 z1 _ H_x0.out.row rfl H_x0.out.1.cap (by omega)).mono ?_
  rintro e w4 ⟨A_g, c_g, rfl, ho4, hb4⟩
  have H := Lib.hid (Has.new (B0 := w.heap.size) ho4 B3.out.size); have S4 := Lib.hid hb4.size; have t := Lib.hid (H_r.out.next hb4); clear H_r; have H_r := t; clear t; have t := Lib.hid (H_x0.out.next hb4); clear H_x0; have H_x0 := t; clear t; have H_g := H; clear H; have B4 := Lib.hid (B3.out.trans (hb4.mono B3.out.size)); clear ho4 hb4
  go_wp2_with fail
  refine (eqIntS_any A_g A_r c_g c_r (shP xs0 z1) (shP xs0 z1) _ _ _ (Nat.le_refl _) (Nat.le_refl _) H_g.out.row H_r.out.row (Nat.le_trans (shP_length xs0 z1) (by decide)) (Nat.le_trans (shP_length xs0 z1) (by decide))).mono ?_
  rw [eqB_refl]
  rintro e w5 ⟨rfl, hk5⟩
  have hb5 := hk5.to
  have S5 := Lib.hid hb5.size; have t := Lib.hid (H_r.out.next hb5); clear H_r; have H_r := t; clear t; have t := Lib.hid (H_x0.out.next hb5); clear H_x0; have H_x0 := t; clear t; have t := Lib.hid (H_g.out.next hb5); clear H_g; have H_g := t; clear t; have B5 := Lib.hid (B4.out.trans (hb5.mono B4.out.size)); clear hb5 hk5
  go_wp2_with fail
  refine (toIntS_any A0 cap0 xs0 _ (R0.out.still B5.out) hx0).mono ?_
  rintro e w6 ⟨A_t, c_t, rfl, ho6, hb6⟩
  have H := Lib.hid (Has.new (B0 := w.heap.size) ho6 B5.out.size); have S6 := Lib.hid hb6.size; have t := Lib.hid (H_r.out.next hb6); clear H_r; have H_r := t; clear t; have t := Lib.hid (H_x0.out.next hb6); clear H_x0; have H_x0 := t; clear t; have t := Lib.hid (H_g.out.next hb6); clear H_g; have H_g := t; clear t; have H_t := H; clear H; have B6 := Lib.hid (B5.out.trans (hb6.mono B5.out.size)); clear ho6 hb6
  go_wp2_with fail
  refine (eqIntS_any A_x0 A_t c_x0 c_t xs0 xs0 _ _ _ (Nat.le_refl _) (Nat.le_refl _) H_x0.out.row H_t.out.row (Nat.le_trans hx0 (by decide)) (Nat.le_trans hx0 (by decide))).mono ?_
  rw [eqB_refl]
  rintro e w7 ⟨rfl, hk7⟩
  have hb7 := hk7.to
  have S7 := Lib.hid hb7.size; have t := Lib.hid (H_r.out.next hb7); clear H_r; have H_r := t; clear t; have t := Lib.hid (H_x0.out.next hb7); clear H_x0; have H_x0 := t; clear t; have t := Lib.hid (H_g.out.next hb7); clear H_g; have H_g := t; clear t; have t := Lib.hid (H_t.out.next hb7); clear H_t; have H_t := t; clear t; have B7 := Lib.hid (B6.out.trans (hb7.mono B6.out.size)); clear hb7 hk7
  clear H_t
  go_wp2_with fail
  refine (markIntS_any A_x0 _ c_x0 xs0 1 _ _ _ rfl H_x0.out.1 (Nat.le_trans hx0 (by decide)) (by omega) (by omega)).mono ?_
  rintro e w8 ⟨rfl, ho8, hg8⟩
  have B8 := Lib.hid (H_x0.out.below B7.out hg8); have S8 := Lib.hid hg8.size; have t := Lib.hid (H_r.out.marked hg8 H_x0.out (by first | exact .inl (Nat.le_refl _) | exact .inr (Nat.le_refl _) | (have s1 := S1.out; have s2 := S2.out; have s3 := S3.out; have s4 := S4.out; have s5 := S5.out; have s6 := S6.out; have s7 := S7.out; omega))); have H2_r := t; clear t; have t := Lib.hid (H_g.out.marked hg8 H_x0.out (by first | exact .inl (Nat.le_refl _) | exact .inr (Nat.le_refl _) | (have s1 := S1.out; have s2 := S2.out; have s3 := S3.out; have s4 := S4.out; have s5 := S5.out; have s6 := S6.out; have s7 := S7.out; omega))); have H2_g := t; clear t; have M_x0 := Lib.hid (show Has w.heap.size w8 _ _ _ (marks 1 _) from ⟨ho8, Nat.le_trans H_x0.out.2.1 hg8.size, H_x0.out.2.2⟩); clear H_r; have H_r := H2_r; clear H2_r; clear H_x0; clear H_g; have H_g := H2_g; clear H2_g; have H_x0 := M_x0; clear M_x0 ho8 hg8
  clear H_x0
  go_wp2_with fail
  refine (eqIntS_any A_g A_r c_g c_r (shP xs0 z1) (shP xs0 z1) _ _ _ (Nat.le_refl _) (Nat.le_refl _) H_g.out.row H_r.out.row (Nat.le_trans (shP_length xs0 z1) (by decide)) (Nat.le_trans (shP_length xs0 z1) (by decide))).mono ?_
  rw [eqB_refl]
  rintro e w9 ⟨rfl, hk9⟩
  have hb9 := hk9.to
  have S9 := Lib.hid hb9.size; have t := Lib.hid (H_r.out.next hb9); clear H_r; have H_r := t; clear t; have t := Lib.hid (H_g.out.next hb9); clear H_g; have H_g := t; clear t; have B9 := Lib.hid (B8.out.trans (hb9.mono B8.out.size)); clear hb9 hk9
  go_wp2_with fail
  refine (markIntS_any A_g _ c_g (shP xs0 z1) 1 _ _ _ rfl H_g.out.1 (Nat.le_trans (shP_length xs0 z1) (by decide)) (by omega) (by omega)).mono ?_
  rintro e w10 ⟨rfl, ho10, hg10⟩
  have B10 := Lib.hid (H_g.out.below B9.out hg10); have S10 := Lib.hid hg10.size; have t := Lib.hid (H_r.out.marked hg10 H_g.out (by first | exact .inl (Nat.le_refl _) | exact .inr (Nat.le_refl _) | (have s1 := S1.out; have s2 := S2.out; have s3 := S3.out; have s4 := S4.out; have s5 := S5.out; have s6 := S6.out; have s7 := S7.out; have s8 := S8.out; have s9 := S9.out; omega))); have H2_r := t; clear t; have M_g := Lib.hid (show Has w.heap.size w10 _ _ _ (marks 1 _) from ⟨ho10, Nat.le_trans H_g.out.2.1 hg10.size, H_g.out.2.2⟩); clear H_r; have H_r := H2_r; clear H2_r; clear H_g; have H_g := M_g; clear M_g ho10 hg10
  go_wp2_with fail
  refine (heldIntS_any A_g _ c_g 1 _ _ H_g.out.row (Nat.le_trans (shP_length xs0 z1) (by decide)) (by decide) (by decide)).mono ?_
  rintro e w' ⟨rfl, rfl⟩
  go_wp2_with fail
  refine (toIntS_any A0 cap0 xs0 _ (R0.out.still B10.out) hx0).mono ?_
  rintro e w11 ⟨A_a0, c_a0, rfl, ho11, hb11⟩
  have H := Lib.hid (Has.new (B0 := w.heap.size) ho11 B10.out.size); have S11 := Lib.hid hb11.size; have t := Lib.hid (H_r.out.next hb11); clear H_r; have H_r := t; clear t; have t := Lib.hid (H_g.out.next hb11); clear H_g; have H_g := t; clear t; have H_a0 := H; clear H; have B11 := Lib.hid (B10.out.trans (hb11.mono B10.out.size)); clear ho11 hb11
  go_wp2_with fail
  refine (shiftPoly_impl A_a0 _ c_a0 xs0 z1 _ H_a0.out.row rfl H_a0.out.1.cap (by omega)).mono ?_
  rintro e w12 ⟨A_h, c_h, rfl, ho12, hb12⟩
  have H := Lib.hid (Has.new (B0 := w.heap.size) ho12 B11.out.size); clear H_a0; have S12 := Lib.hid hb12.size; have t := Lib.hid (H_r.out.next hb12); clear H_r; have H_r := t; clear t; have t := Lib.hid (H_g.out.next hb12); clear H_g; have H_g := t; clear t; have H_h := H; clear H; have B12 := Lib.hid (B11.out.trans (hb12.mono B11.out.size)); clear ho12 hb12
  go_wp2_with fail
  refine (eqIntS_any A_h A_r c_h c_r (shP xs0 z1) (shP xs0 z1) _ _ _ (Nat.le_refl _) (Nat.le_refl _) H_h.out.row H_r.out.row (Nat.le_trans (shP_length xs0 z1) (by decide)) (Nat.le_trans (shP_length xs0 z1) (by decide))).mono ?_
  rw [eqB_refl]
  rintro e w13 ⟨rfl, hk13⟩
  have hb13 := hk13.to
  have S13 := Lib.hid hb13.size; have t := Lib.hid (H_r.out.next hb13); clear H_r; have H_r := t; clear t; have t := Lib.hid (H_g.out.next hb13); clear H_g; have H_g := t; clear t; have t := Lib.hid (H_h.out.next hb13); clear H_h; have H_h := t; clear t; have B13 := Lib.hid (B12.out.trans (hb13.mono B12.out.size)); clear hb13 hk13
  go_wp2_with fail
  refine (heldIntS_any A_g _ c_g 1 _ _ H_g.out.row (Nat.le_trans (shP_length xs0 z1) (by decide)) (by decide) (by decide)).mono ?_
  rintro e w' ⟨rfl, rfl⟩
  go_wp2_with fail
  go_ret
  exact ⟨rfl, B13.out⟩

set_option maxRecDepth 100000 in
theorem lifted_FnExactShiftPoly (os : Os) (started : os.Started) (H : Type) (enc : TypeId × Value → H) :
    ReturnsInHanded {} Try.checked os 3 .any (Rows.fnExactShiftPolySpec.pre6 enc Try.prog Try.f3 Rows.fnExactShiftPolyRow.domain false) (Rows.fnExactShiftPolySpec.post enc Try.prog Try.f3 false true false false) := by
  refine returnsInHanded_of_change (C := Try.checked) own started (by kernel_rfl) Try.func3
    (ChangeSpec.witness6 (enc := enc) (C := Try.checked) false ⟨#[], #[.slice none 0 0, .int .i64 0], []⟩ 8 (by kernel_rfl) (by kernel_rfl) (by kernel_rfl) (by kernel_rfl)) ?_
  intro W base args ds gs before hval0 hW hcnd _
  have hval : ∀ (j : Nat) t v, Try.f3.params[j]? = some t → args[j]? = some v → Value.okWide Try.prog W .any base t v := hval0
  have hW' := hW
  obtain ⟨p, q, hA0, hV, rfl, hfz, hnd⟩ := hW
  have hA : DataW.TrodAll enc Try.prog W 0 (fun _ => true) true Try.f3.params.toList args.toList ds p := hA0
  rw [Try.params3] at hA hval
  obtain ⟨v0, vs0, d0, ds0, p0, q0, hargs, rfl, rfl, h0, r0⟩ := trodAll_cons hA
  obtain ⟨v1, vs1, d1, ds1, p1, q1, rfl, rfl, rfl, h1, r1⟩ := trodAll_cons r0
  obtain ⟨rfl, rfl, rfl⟩ := trodAll_nil r1
  obtain rfl : args = #[v0, v1] := by cases args; simp_all
  obtain ⟨rfl, rfl⟩ := trodVars_none hV
  obtain ⟨a0, len0, cap0, rfl⟩ := okWide_slice Try.underlying22 (hval 0 22 v0 rfl rfl)
  have k0 := h0
  have lt0 : ∀ x ∈ p0, x.block < W.heap.size := by obtain ⟨m, hm⟩ := k0; exact DataW.trod_lt m _ _ _ hm
  obtain ⟨z0, w0⟩ : ∃ zs, IsRow .i64 W a0 len0 cap0 zs := by
    obtain ⟨fuel, hf⟩ := h0
    rcases open_ints Try.underlying22 Try.underlying3 (by kernel_rfl) hf with ⟨hcs, _⟩ | ⟨x, l, c, zs, hcs, _, hl, hm, hz, _, hcell, hwz⟩
    · simp [Value.cells] at hcs
      obtain ⟨rfl, rfl, rfl⟩ := hcs
      exact ⟨[], .inl ⟨rfl, rfl, rfl, rfl⟩⟩
    · simp [Value.cells] at hcs
      obtain ⟨rfl, rfl, rfl⟩ := hcs
      exact ⟨zs, .inr ⟨_, rfl, hl, hm, by simpa using hz, hcell, hwz⟩⟩
  obtain ⟨a1, rfl, rfl, rfl, w1⟩ := open_int Try.underlying3 (hval 1 3 v1 rfl rfl) h1
  clear hA0 hval0
  refine (walk_FnExactShiftPoly W a0 len0 cap0 z0 w0 a1 w1).mono fun e W' ⟨he, bel⟩ => ?_
  subst he
  exact ⟨_, rfl, _, _, _, [], _, [], hW', trodAll_mk1 (shut_bool Try.underlying4 _), (trodAll_cons_mk (Below.trod laidOut (by kernel_rfl) (of_decide_eq_true (by kernel_rfl)) k0 bel lt0) (trodAll_cons_mk (shut_int Try.underlying3 w1) trodAll_mk0)), rfl, bel.frame _, fun h => by cases h⟩

theorem over_FnExactShiftPoly : Rows.fnExactShiftPolyRow.holds Try.pinned (OpenSpec.ofChange Rows.fnExactShiftPolySpec) :=
  OpenClaim.holds_of_wide 3 Try.f3 rfl rfl rfl rfl rfl rfl rfl ⟨rfl, rfl, rfl, rfl, rfl⟩ rfl rfl rfl rfl rfl (by kernel_rfl) Try.func3 (by kernel_rfl)
    (of_decide_eq_true (by kernel_rfl)) (by unfold Func.isWrapper; first | (rw [if_pos (by decide +kernel)]; kernel_rfl) | (rw [if_neg (by decide +kernel)]; exact ⟨rfl, rfl⟩))
    (fun os started H enc _ => lifted_FnExactShiftPoly os started H enc)

theorem fnExactShiftPoly_proved : Rows.FnExactShiftPolySaid := over_FnExactShiftPoly
#print axioms fnExactShiftPoly_proved
end Go.Proofs.Ytbcmpgagceomgaa
