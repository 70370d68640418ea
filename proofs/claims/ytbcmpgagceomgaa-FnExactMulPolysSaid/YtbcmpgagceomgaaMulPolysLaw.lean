/- The statement FnExactMulPolys: for all arguments the program's MulPolys returns what the reference's returns, in memory of its own, and leaves its arguments alone. No conditions. -/
import Derived.Test.YtbcmpgagceomgaaHas
import Derived.Test.YtbcmpgagceomgaaMul
namespace Go.Proofs.Ytbcmpgagceomgaa
open Go.ChangeShapes Go.WideShapes Go.ChangeAt Go.RowKit

set_option maxHeartbeats 4000000 in
theorem walk_FnExactMulPolys (w : World) (A0 : Option Addr) (n0 cap0 : Nat) (zs0 : List Int) (hz0 : IsRow .i64 w A0 n0 cap0 zs0) (A1 : Option Addr) (n1 cap1 : Nat) (zs1 : List Int) (hz1 : IsRow .i64 w A1 n1 cap1 zs1) :
    Calls Try.prog 5 #[.slice A0 n0 cap0, .slice A1 n1 cap1] w fun e w' => e = .returned (.bool true) ∧ Below w.heap.size w w' := by
  obtain ⟨xs0, rfl, hr0, _⟩ := hz0.row
  clear hz0
  have R0 := Lib.hid hr0; clear hr0
  obtain ⟨xs1, rfl, hr1, _⟩ := hz1.row
  clear hz1
  have R1 := Lib.hid hr1; clear hr1
  by_cases hx0 : xs0.length ≤ 1048576
  rotate_left
  · go_enter Try.func5, Try.ntmps5
    go_wp2_with fail
    go_ret
    exact ⟨rfl, Below.refl _ _⟩
  by_cases hx1 : xs1.length ≤ 1048576
  rotate_left
  · go_enter Try.func5, Try.ntmps5
    go_wp2_with fail
    go_ret
    exact ⟨rfl, Below.refl _ _⟩
  have B0 := Lib.hid (Below.refl w.heap.size w)
  go_enter Try.func5, Try.ntmps5
  go_wp2_with fail
  refine (toIntS_any A0 cap0 xs0 _ (R0.out.still B0.out) hx0).mono ?_
  rintro e w1 ⟨A_a0, c_a0, rfl, ho1, hb1⟩
  have H := Lib.hid (Has.new (B0 := w.heap.size) ho1 B0.out.size); have S1 := Lib.hid hb1.size; have H_a0 := H; clear H; have B1 := Lib.hid (B0.out.trans (hb1.mono B0.out.size)); clear ho1 hb1
  go_wp2_with fail
  refine (toIntS_any A1 cap1 xs1 _ (R1.out.still B1.out) hx1).mono ?_
  rintro e w2 ⟨A_a1, c_a1, rfl, ho2, hb2⟩
  have H := Lib.hid (Has.new (B0 := w.heap.size) ho2 B1.out.size); have S2 := Lib.hid hb2.size; have t := Lib.hid (H_a0.out.next hb2); clear H_a0; have H_a0 := t; clear t; have H_a1 := H; clear H; have B2 := Lib.hid (B1.out.trans (hb2.mono B1.out.size)); clear ho2 hb2
  go_wp2_with fail
  refine (mulPolys_spec A_a0 _ c_a0 xs0 A_a1 _ c_a1 xs1 _ H_a0.out.row H_a1.out.row rfl rfl (by omega) (by omega)).mono ?_
  rintro e w3 ⟨A_r, c_r, rfl, ho3, hb3⟩
  have H := Lib.hid (Has.new (B0 := w.heap.size) ho3 B2.out.size); clear H_a0; clear H_a1; have S3 := Lib.hid hb3.size; have H_r := H; clear H; have B3 := Lib.hid (B2.out.trans (hb3.mono B2.out.size)); clear ho3 hb3
  go_wp2_with fail
  refine (toIntS_any A0 cap0 xs0 _ (R0.out.still B3.out) hx0).mono ?_
  rintro e w4 ⟨A_x0, c_x0, rfl, ho4, hb4⟩
  have H := Lib.hid (Has.new (B0 := w.heap.size) ho4 B3.out.size); have S4 := Lib.hid hb4.size; have t := Lib.hid (H_r.out.next hb4); clear H_r; have H_r := t; clear t; have H_x0 := H; clear H; have B4 := Lib.hid (B3.out.trans (hb4.mono B3.out.size)); clear ho4 hb4
  go_wp2_with fail
  refine (toIntS_any A1 cap1 xs1 _ (R1.out.still B4.out) hx1).mono ?_
  rintro e w5 ⟨A_x1, c_x1, rfl, ho5, hb5⟩
  have H := Lib.hid (Has.new (B0 := w.heap.size) ho5 B4.out.size); have S5 := Lib.hid hb5.size; have t := Lib.hid (H_r.out.next hb5); clear H_r; have H_r := t; clear t; have t := Lib.hid (H_x0.out.next hb5); clear H_x0; have H_x0 := t; clear t; have H_x1 := H; clear H; have B5 := Lib.hid (B4.out.trans (hb5.mono B4.out.size)); clear ho5 hb5
  go_wp2_with fail
  refine (mulPolys_impl A_x0 _ c_x0 xs0 A_x1 _ c_x1 xs1 _ H_x0.out.row H_x1.out.row rfl rfl (by omega) (by omega)).mono ?_
  rintro e w6 ⟨A_g, c_g, rfl, ho6, hb6⟩
  have H := Lib.hid (Has.new (B0 := w.heap.size) ho6 B5.out.size); have S6 := Lib.hid hb6.size; have t := Lib.hid (H_r.out.next hb6); clear H_r; have H_r := t; clear t; have t := Lib.hid (H_x0.out.next hb6); clear H_x0; have H_x0 := t; clear t; have t := Lib.hid (H_x1.out.next hb6); clear H_x1; have H_x1 := t; clear t; have H_g := H; clear H; have B6 := Lib.hid (B5.out.trans (hb6.mono B5.out.size)); clear ho6 hb6
  go_wp2_with fail
  refine (eqIntS_any A_g A_r c_g c_r (mlP xs0 xs1) (mlP xs0 xs1) _ _ _ (Nat.le_refl _) (Nat.le_refl _) H_g.out.row H_r.out.row (Nat.le_trans (mlP_length xs0 xs1) (by decide)) (Nat.le_trans (mlP_length xs0 xs1) (by decide))).mono ?_
  rw [eqB_refl]
  rintro e w7 ⟨rfl, hk7⟩
  have hb7 := hk7.to
  have S7 := Lib.hid hb7.size; have t := Lib.hid (H_r.out.next hb7); clear H_r; have H_r := t; clear t; have t := Lib.hid (H_x0.out.next hb7); clear H_x0; have H_x0 := t; clear t; have t := Lib.hid (H_x1.out.next hb7); clear H_x1; have H_x1 := t; clear t; have t := Lib.hid (H_g.out.next hb7); clear H_g; have H_g := t; clear t; have B7 := Lib.hid (B6.out.trans (hb7.mono B6.out.size)); clear hb7 hk7
  go_wp2_with fail
  refine (toIntS_any A0 cap0 xs0 _ (R0.out.still B7.out) hx0).mono ?_
  rintro e w8 ⟨A_t, c_t, rfl, ho8, hb8⟩
  have H := Lib.hid (Has.new (B0 := w.heap.size) ho8 B7.out.size); have S8 := Lib.hid hb8.size; have t := Lib.hid (H_r.out.next hb8); clear H_r; have H_r := t; clear t; have t := Lib.hid (H_x0.out.next hb8); clear H_x0; have H_x0 := t; clear t; have t := Lib.hid (H_x1.out.next hb8); clear H_x1; have H_x1 := t; clear t; have t := Lib.hid (H_g.out.next hb8); clear H_g; have H_g := t; clear t; have H_t := H; clear H; have B8 := Lib.hid (B7.out.trans (hb8.mono B7.out.size)); clear ho8 hb8
  go_wp2_with fail
  refine (eqIntS_any A_x0 A_t c_x0 c_t xs0 xs0 _ _ _ (Nat.le_refl _) (Nat.le_refl _) H_x0.out.row H_t.out.row (Nat.le_trans hx0 (by decide)) (Nat.le_trans hx0 (by decide))).mono ?_
  rw [eqB_refl]
  rintro e w9 ⟨rfl, hk9⟩
  have hb9 := hk9.to
  have S9 := Lib.hid hb9.size; have t := Lib.hid (H_r.out.next hb9); clear H_r; have H_r := t; clear t; have t := Lib.hid (H_x0.out.next hb9); clear H_x0; have H_x0 := t; clear t; have t := Lib.hid (H_x1.out.next hb9); clear H_x1; have H_x1 := t; clear t; have t := Lib.hid (H_g.out.next hb9); clear H_g; have H_g := t; clear t; have t := Lib.hid (H_t.out.next hb9); clear H_t; have H_t := t; clear t; have B9 := Lib.hid (B8.out.trans (hb9.mono B8.out.size)); clear hb9 hk9
  clear H_t
  go_wp2_with fail
  refine (toIntS_any A1 cap1 xs1 _ (R1.out.still B9.out) hx1).mono ?_
  rintro e w10 ⟨A_t, c_t, rfl, ho10, hb10⟩
  have H := Lib.hid (Has.new (B0 := w.heap.size) ho10 B9.out.size); have S10 := Lib.hid hb10.size; have t := Lib.hid (H_r.out.next hb10); clear H_r; have H_r := t; clear t; have t := Lib.hid (H_x0.out.next hb10); clear H_x0; have H_x0 := t; clear t; have t := Lib.hid (H_x1.out.next hb10); clear H_x1; have H_x1 := t; clear t; have t := Lib.hid (H_g.out.next hb10); clear H_g; have H_g := t; clear t; have H_t := H; clear H; have B10 := Lib.hid (B9.out.trans (hb10.mono B9.out.size)); clear ho10 hb10
  go_wp2_with fail
  refine (eqIntS_any A_x1 A_t c_x1 c_t xs1 xs1 _ _ _ (Nat.le_refl _) (Nat.le_refl _) H_x1.out.row H_t.out.row (Nat.le_trans hx1 (by decide)) (Nat.le_trans hx1 (by decide))).mono ?_
  rw [eqB_refl]
  rintro e w11 ⟨rfl, hk11⟩
  have hb11 := hk11.to
  have S11 := Lib.hid hb11.size; have t := Lib.hid (H_r.out.next hb11); clear H_r; have H_r := t; clear t; have t := Lib.hid (H_x0.out.next hb11); clear H_x0; have H_x0 := t; clear t; have t := Lib.hid (H_x1.out.next hb11); clear H_x1; have H_x1 := t; clear t; have t := Lib.hid (H_g.out.next hb11); clear H_g; have H_g := t; clear t; have t := Lib.hid (H_t.out.next hb11); clear H_t; have H_t := t; clear t; have B11 := Lib.hid (B10.out.trans (hb11.mono B10.out.size)); clear hb11 hk11
  clear H_t
  go_wp2_with fail
  refine (markIntS_any A_x0 _ c_x0 xs0 1 _ _ _ rfl H_x0.out.1 (Nat.le_trans hx0 (by decide)) (by omega) (by omega)).mono ?_
  rintro e w12 ⟨rfl, ho12, hg12⟩
  have B12 := Lib.hid (H_x0.out.below B11.out hg12); have S12 := Lib.hid hg12.size; have t := Lib.hid (H_r.out.marked hg12 H_x0.out (by first | exact .inl (Nat.le_refl _) | exact .inr (Nat.le_refl _) | (have s1 := S1.out; have s2 := S2.out; have s3 := S3.out; have s4 := S4.out; have s5 := S5.out; have s6 := S6.out; have s7 := S7.out; have s8 := S8.out; have s9 := S9.out; have s10 := S10.out; have s11 := S11.out; omega))); have H2_r := t; clear t; have t := Lib.hid (H_x1.out.marked hg12 H_x0.out (by first | exact .inl (Nat.le_refl _) | exact .inr (Nat.le_refl _) | (have s1 := S1.out; have s2 := S2.out; have s3 := S3.out; have s4 := S4.out; have s5 := S5.out; have s6 := S6.out; have s7 := S7.out; have s8 := S8.out; have s9 := S9.out; have s10 := S10.out; have s11 := S11.out; omega))); have H2_x1 := t; clear t; have t := Lib.hid (H_g.out.marked hg12 H_x0.out (by first | exact .inl (Nat.le_refl _) | exact .inr (Nat.le_refl _) | (have s1 := S1.out; have s2 := S2.out; have s3 := S3.out; have s4 := S4.out; have s5 := S5.out; have s6 := S6.out; have s7 := S7.out; have s8 := S8.out; have s9 := S9.out; have s10 := S10.out; have s11 := S11.out; omega))); have H2_g := t; clear t; have M_x0 := Lib.hid (show Has w.heap.size w12 _ _ _ (marks 1 _) from ⟨ho12, Nat.le_trans H_x0.out.2.1 hg12.size, H_x0.out.2.2⟩); clear H_r; have H_r := H2_r; clear H2_r; clear H_x0; clear H_x1; have H_x1 := H2_x1; clear H2_x1; clear H_g; have H_g := H2_g; clear H2_g; have H_x0 := M_x0; clear M_x0 ho12 hg12
  clear H_x0
  go_wp2_with fail
  refine (markIntS_any A_x1 _ c_x1 xs1 (1 + (xs0.length : Int)) _ _ _ rfl H_x1.out.1 (Nat.le_trans hx1 (by decide)) (by omega) (by omega)).mono ?_
  rintro e w13 ⟨rfl, ho13, hg13⟩
  have B13 := Lib.hid (H_x1.out.below B12.out hg13); have S13 := Lib.hid hg13.size; have t := Lib.hid (H_r.out.marked hg13 H_x1.out (by first | exact .inl (Nat.le_refl _) | exact .inr (Nat.le_refl _) | (have s1 := S1.out; have s2 := S2.out; have s3 := S3.out; have s4 := S4.out; have s5 := S5.out; have s6 := S6.out; have s7 := S7.out; have s8 := S8.out; have s9 := S9.out; have s10 := S10.out; have s11 := S11.out; have s12 := S12.out; omega))); have H2_r := t; clear t; have t := Lib.hid (H_g.out.marked hg13 H_x1.out (by first | exact .inl (Nat.le_refl _) | exact .inr (Nat.le_refl _) | (have s1 := S1.out; have s2 := S2.out; have s3 := S3.out; have s4 := S4.out; have s5 := S5.out; have s6 := S6.out; have s7 := S7.out; have s8 := S8.out; have s9 := S9.out; have s10 := S10.out; have s11 := S11.out; have s12 := S12.out; omega))); have H2_g := t; clear t; have M_x1 := Lib.hid (show Has w.heap.size w13 _ _ _ (marks (1 + (xs0.length : Int)) _) from ⟨ho13, Nat.le_trans H_x1.out.2.1 hg13.size, H_x1.out.2.2⟩); clear H_r; have H_r := H2_r; clear H2_r; clear H_x1; clear H_g; have H_g := H2_g; clear H2_g; have H_x1 := M_x1; clear M_x1 ho13 hg13
  clear H_x1
  go_wp2_with fail
  refine (eqIntS_any A_g A_r c_g c_r (mlP xs0 xs1) (mlP xs0 xs1) _ _ _ (Nat.le_refl _) (Nat.le_refl _) H_g.out.row H_r.out.row (Nat.le_trans (mlP_length xs0 xs1) (by decide)) (Nat.le_trans (mlP_length xs0 xs1) (by decide))).mono ?_
  rw [eqB_refl]
  rintro e w14 ⟨rfl, hk14⟩
  have hb14 := hk14.to
  have S14 := Lib.hid hb14.size; have t := Lib.hid (H_r.out.next hb14); clear H_r; have H_r := t; clear t; have t := Lib.hid (H_g.out.next hb14); clear H_g; have H_g := t; clear t; have B14 := Lib.hid (B13.out.trans (hb14.mono B13.out.size)); clear hb14 hk14
  go_wp2_with fail
  refine (markIntS_any A_g _ c_g (mlP xs0 xs1) 1 _ _ _ rfl H_g.out.1 (Nat.le_trans (mlP_length xs0 xs1) (by decide)) (by omega) (by omega)).mono ?_
  rintro e w15 ⟨rfl, ho15, hg15⟩
  have B15 := Lib.hid (H_g.out.below B14.out hg15); have S15 := Lib.hid hg15.size; have t := Lib.hid (H_r.out.marked hg15 H_g.out (by first | exact .inl (Nat.le_refl _) | exact .inr (Nat.le_refl _) | (have s1 := S1.out; have s2 := S2.out; have s3 := S3.out; have s4 := S4.out; have s5 := S5.out; have s6 := S6.out; have s7 := S7.out; have s8 := S8.out; have s9 := S9.out; have s10 := S10.out; have s11 := S11.out; have s12 := S12.out; have s13 := S13.out; have s14 := S14.out; omega))); have H2_r := t; clear t; have M_g := Lib.hid (show Has w.heap.size w15 _ _ _ (marks 1 _) from ⟨ho15, Nat.le_trans H_g.out.2.1 hg15.size, H_g.out.2.2⟩); clear H_r; have H_r := H2_r; clear H2_r; clear H_g; have H_g := M_g; clear M_g ho15 hg15
  go_wp2_with fail
  refine (heldIntS_any A_g _ c_g 1 _ _ H_g.out.row (Nat.le_trans (mlP_length xs0 xs1) (by decide)) (by decide) (by decide)).mono ?_
  rintro e w' ⟨rfl, rfl⟩
  go_wp2_with fail
  refine (toIntS_any A0 cap0 xs0 _ (R0.out.still B15.out) hx0).mono ?_
  rintro e w16 ⟨A_a0, c_a0, rfl, ho16, hb16⟩
  have H := Lib.hid (Has.new (B0 := w.heap.size) ho16 B15.out.size); have S16 := Lib.hid hb16.size; have t := Lib.hid (H_r.out.next hb16); clear H_r; have H_r := t; clear t; have t := Lib.hid (H_g.out.next hb16); clear H_g; have H_g := t; clear t; have H_a0 := H; clear H; have B16 := Lib.hid (B15.out.trans (hb16.mono B15.out.size)); clear ho16 hb16
  go_wp2_with fail
  refine (toIntS_any A1 cap1 xs1 _ (R1.out.still B16.out) hx1).mono ?_
  rintro e w17 ⟨A_a1, c_a1, rfl, ho17, hb17⟩
  have H := Lib.hid (Has.new (B0 := w.heap.size) ho17 B16.out.size); have S17 := Lib.hid hb17.size; have t := Lib.hid (H_r.out.next hb17); clear H_r; have H_r := t; clear t; have t := Lib.hid (H_g.out.next hb17); clear H_g; have H_g := t; clear t; have t := Lib.hid (H_a0.out.next hb17); clear H_a0; have H_a0 := t; clear t; have H_a1 := H; clear H; have B17 := Lib.hid (B16.out.trans (hb17.mono B16.out.size)); clear ho17 hb17
  go_wp2_with fail
  refine (mulPolys_impl A_a0 _ c_a0 xs0 A_a1 _ c_a1 xs1 _ H_a0.out.row H_a1.out.row rfl rfl (by omega) (by omega)).mono ?_
  rintro e w18 ⟨A_h, c_h, rfl, ho18, hb18⟩
  have H := Lib.hid (Has.new (B0 := w.heap.size) ho18 B17.out.size); clear H_a0; clear H_a1; have S18 := Lib.hid hb18.size; have t := Lib.hid (H_r.out.next hb18); clear H_r; have H_r := t; clear t; have t := Lib.hid (H_g.out.next hb18); clear H_g; have H_g := t; clear t; have H_h := H; clear H; have B18 := Lib.hid (B17.out.trans (hb18.mono B17.out.size)); clear ho18 hb18
  go_wp2_with fail
  refine (eqIntS_any A_h A_r c_h c_r (mlP xs0 xs1) (mlP xs0 xs1) _ _ _ (Nat.le_refl _) (Nat.le_refl _) H_h.out.row H_r.out.row (Nat.le_trans (mlP_length xs0 xs1) (by decide)) (Nat.le_trans (mlP_length xs0 xs1) (by decide))).mono ?_
  rw [eqB_refl]
  rintro e w19 ⟨rfl, hk19⟩
  have hb19 := hk19.to
  have S19 := Lib.hid hb19.size; have t := Lib.hid (H_r.out.next hb19); clear H_r; have H_r := t; clear t; have t := Lib.hid (H_g.out.next hb19); clear H_g; have H_g := t; clear t; have t := Lib.hid (H_h.out.next hb19); clear H_h; have H_h := t; clear t; have B19 := Lib.hid (B18.out.trans (hb19.mono B18.out.size)); clear hb19 hk19
  go_wp2_with fail
  refine (heldIntS_any A_g _ c_g 1 _ _ H_g.out.row (Nat.le_trans (mlP_length xs0 xs1) (by decide)) (by decide) (by decide)).mono ?_
  rintro e w' ⟨rfl, rfl⟩
  go_wp2_with fail
  go_ret
  exact ⟨rfl, B19.out⟩

set_option maxRecDepth 100000 in
theorem lifted_FnExactMulPolys (os : Os) (started : os.Started) (H : Type) (enc : TypeId × Value → H) :
    ReturnsInHanded {} Try.checked os 5 .any (Rows.fnExactMulPolysSpec.pre6 enc Try.prog Try.f5 Rows.fnExactMulPolysRow.domain false) (Rows.fnExactMulPolysSpec.post enc Try.prog Try.f5 false true false false) := by
  refine returnsInHanded_of_change (C := Try.checked) own started (by kernel_rfl) Try.func5
    (ChangeSpec.witness6 (enc := enc) (C := Try.checked) false ⟨#[], #[.slice none 0 0, .slice none 0 0], []⟩ 8 (by kernel_rfl) (by kernel_rfl) (by kernel_rfl) (by kernel_rfl)) ?_
  intro W base args ds gs before hval0 hW hcnd _
  have hval : ∀ (j : Nat) t v, Try.f5.params[j]? = some t → args[j]? = some v → Value.okWide Try.prog W .any base t v := hval0
  have hW' := hW
  obtain ⟨p, q, hA0, hV, rfl, hfz, hnd⟩ := hW
  have hA : DataW.TrodAll enc Try.prog W 0 (fun _ => true) true Try.f5.params.toList args.toList ds p := hA0
  rw [Try.params5] at hA hval
  obtain ⟨v0, vs0, d0, ds0, p0, q0, hargs, rfl, rfl, h0, r0⟩ := trodAll_cons hA
  obtain ⟨v1, vs1, d1, ds1, p1, q1, rfl, rfl, rfl, h1, r1⟩ := trodAll_cons r0
  obtain ⟨rfl, rfl, rfl⟩ := trodAll_nil r1
  obtain rfl : args = #[v0, v1] := by cases args; simp_all
  obtain ⟨rfl, rfl⟩ := trodVars_none hV
  obtain ⟨a0, len0, cap0, rfl⟩ := okWide_slice Try.underlying22 (hval 0 22 v0 rfl rfl)
  have k0 := h0
  have lt0 : ∀ x ∈ p0, x.block < W.heap.size := by obtain ⟨m, hm⟩ := k0; exact DataW.trod_lt m _ _ _ hm
  obtain ⟨z0, w0⟩ : ∃ zs, IsRow .i64 W a0 len0 cap0 zs := by
    obtain ⟨fuel, hf⟩ := h0
    rcases open_ints Try.underlying22 Try.underlying3 (by kernel_rfl) hf with ⟨hcs, _⟩ | ⟨x, l, c, zs, hcs, _, hl, hm, hz, _, hcell, hwz⟩
    · simp [Value.cells] at hcs
      obtain ⟨rfl, rfl, rfl⟩ := hcs
      exact ⟨[], .inl ⟨rfl, rfl, rfl, rfl⟩⟩
    · simp [Value.cells] at hcs
      obtain ⟨rfl, rfl, rfl⟩ := hcs
      exact ⟨zs, .inr ⟨_, rfl, hl, hm, by simpa using hz, hcell, hwz⟩⟩
  obtain ⟨a1, len1, cap1, rfl⟩ := okWide_slice Try.underlying22 (hval 1 22 v1 rfl rfl)
  have k1 := h1
  have lt1 : ∀ x ∈ p1, x.block < W.heap.size := by obtain ⟨m, hm⟩ := k1; exact DataW.trod_lt m _ _ _ hm
  obtain ⟨z1, w1⟩ : ∃ zs, IsRow .i64 W a1 len1 cap1 zs := by
    obtain ⟨fuel, hf⟩ := h1
    rcases open_ints Try.underlying22 Try.underlying3 (by kernel_rfl) hf with ⟨hcs, _⟩ | ⟨x, l, c, zs, hcs, _, hl, hm, hz, _, hcell, hwz⟩
    · simp [Value.cells] at hcs
      obtain ⟨rfl, rfl, rfl⟩ := hcs
      exact ⟨[], .inl ⟨rfl, rfl, rfl, rfl⟩⟩
    · simp [Value.cells] at hcs
      obtain ⟨rfl, rfl, rfl⟩ := hcs
      exact ⟨zs, .inr ⟨_, rfl, hl, hm, by simpa using hz, hcell, hwz⟩⟩
  clear hA0 hval0
  refine (walk_FnExactMulPolys W a0 len0 cap0 z0 w0 a1 len1 cap1 z1 w1).mono fun e W' ⟨he, bel⟩ => ?_
  subst he
  exact ⟨_, rfl, _, _, _, [], _, [], hW', trodAll_mk1 (shut_bool Try.underlying4 _), (trodAll_cons_mk (Below.trod laidOut (by kernel_rfl) (of_decide_eq_true (by kernel_rfl)) k0 bel lt0) (trodAll_cons_mk (Below.trod laidOut (by kernel_rfl) (of_decide_eq_true (by kernel_rfl)) k1 bel lt1) trodAll_mk0)), rfl, bel.frame _, fun h => by cases h⟩

theorem over_FnExactMulPolys : Rows.fnExactMulPolysRow.holds Try.pinned (OpenSpec.ofChange Rows.fnExactMulPolysSpec) :=
  OpenClaim.holds_of_wide 5 Try.f5 rfl rfl rfl rfl rfl rfl rfl ⟨rfl, rfl, rfl, rfl, rfl⟩ rfl rfl rfl rfl rfl (by kernel_rfl) Try.func5 (by kernel_rfl)
    (of_decide_eq_true (by kernel_rfl)) (by unfold Func.isWrapper; first | (rw [if_pos (by decide +kernel)]; kernel_rfl) | (rw [if_neg (by decide +kernel)]; exact ⟨rfl, rfl⟩))
    (fun os started H enc _ => lifted_FnExactMulPolys os started H enc)

theorem fnExactMulPolys_proved : Rows.FnExactMulPolysSaid := over_FnExactMulPolys
#print axioms fnExactMulPolys_proved
end Go.Proofs.Ytbcmpgagceomgaa
