/- The statement FnExactLeastDegree: for all arguments the program's LeastDegree returns what the reference's returns, in memory of its own, and leaves its arguments alone. No conditions. -/
import Derived.Test.YthjadabaojcmoaaHas
import Derived.Test.YthjadabaojcmoaaTable
namespace Go.Proofs.Ythjadabaojcmoaa
open Go.ChangeShapes Go.WideShapes Go.ChangeAt Go.RowKit

set_option maxHeartbeats 4000000 in
theorem walk_FnExactLeastDegree (w : World) (A0 : Option Addr) (n0 cap0 : Nat) (zs0 : List Int) (hz0 : IsRow .i64 w A0 n0 cap0 zs0) :
    Calls Try.prog 10 #[.slice A0 n0 cap0] w fun e w' => e = .returned (.bool true) ∧ Below w.heap.size w w' := by
  obtain ⟨xs0, rfl, hr0, _⟩ := hz0.row
  clear hz0
  have R0 := Lib.hid hr0; clear hr0
  by_cases hx0 : xs0.length ≤ 1048576
  rotate_left
  · go_enter Try.func10, Try.ntmps10
    go_wp2_with fail
    go_ret
    exact ⟨rfl, Below.refl _ _⟩
  have B0 := Lib.hid (Below.refl w.heap.size w)
  go_enter Try.func10, Try.ntmps10
  go_wp2_with fail
  refine (toIntS_any A0 cap0 xs0 _ (R0.out.still B0.out) hx0).mono ?_
  rintro e w1 ⟨A_a0, c_a0, rfl, ho1, hb1⟩
  have H := Lib.hid (Has.new (B0 := w.heap.size) ho1 B0.out.size); have S1 := Lib.hid hb1.size; have H_a0 := H; clear H; have B1 := Lib.hid (B0.out.trans (hb1.mono B0.out.size)); clear ho1 hb1
  go_wp2_with fail
  refine (leastDegree_spec A_a0 _ c_a0 xs0 _ H_a0.out.row rfl (by omega)).mono ?_
  rintro e w2 ⟨rfl, hb2⟩
  clear H_a0; have S2 := Lib.hid hb2.size; have B2 := Lib.hid (B1.out.trans (hb2.mono B1.out.size)); clear hb2
  go_wp2_with fail
  refine (toIntS_any A0 cap0 xs0 _ (R0.out.still B2.out) hx0).mono ?_
  rintro e w3 ⟨A_x0, c_x0, rfl, ho3, hb3⟩
  have H := Lib.hid (Has.new (B0 := w.heap.size) ho3 B2.out.size); have S3 := Lib.hid hb3.size; have H_x0 := H; clear H; have B3 := Lib.hid (B2.out.trans (hb3.mono B2.out.size)); clear ho3 hb3
  go_wp2_with fail
  refine (leastDegree_impl A_x0 _ c_x0 xs0 _ H_x0.out.row rfl (by omega)).mono ?_
  rintro e w4 ⟨rfl, hb4⟩
  have S4 := Lib.hid hb4.size; have t := Lib.hid (H_x0.out.next hb4); clear H_x0; have H_x0 := t; clear t; have B4 := Lib.hid (B3.out.trans (hb4.mono B3.out.size)); clear hb4
  go_wp2_with fail
  refine (toIntS_any A0 cap0 xs0 _ (R0.out.still B4.out) hx0).mono ?_
  rintro e w5 ⟨A_t, c_t, rfl, ho5, hb5⟩
  have H := Lib.hid (Has.new (B0 := w.heap.size) ho5 B4.out.size); have S5 := Lib.hid hb5.size; have t := Lib.hid (H_x0.out.next hb5); clear H_x0; have H_x0 := t; clear t; have H_t := H; clear H; have B5 := Lib.hid (B4.out.trans (hb5.mono B4.out.size)); clear ho5 hb5
  go_wp2_with fail
  refine (eqIntS_any A_x0 A_t c_x0 c_t xs0 xs0 _ _ _ (Nat.le_refl _) (Nat.le_refl _) H_x0.out.row H_t.out.row (Nat.le_trans hx0 (by decide)) (Nat.le_trans hx0 (by decide))).mono ?_
  rw [eqB_refl]
  rintro e w6 ⟨rfl, hk6⟩
  have hb6 := hk6.to
  have S6 := Lib.hid hb6.size; have t := Lib.hid (H_x0.out.next hb6); clear H_x0; have H_x0 := t; clear t; have t := Lib.hid (H_t.out.next hb6); clear H_t; have H_t := t; clear t; have B6 := Lib.hid (B5.out.trans (hb6.mono B5.out.size)); clear hb6 hk6
  clear H_t
  go_wp2_with fail
  go_ret
  exact ⟨rfl, B6.out⟩

set_option maxRecDepth 100000 in
theorem lifted_FnExactLeastDegree (os : Os) (started : os.Started) (H : Type) (enc : TypeId × Value → H) :
    ReturnsInHanded {} Try.checked os 10 .any (Rows.fnExactLeastDegreeSpec.pre6 enc Try.prog Try.f10 Rows.fnExactLeastDegreeRow.domain false) (Rows.fnExactLeastDegreeSpec.post enc Try.prog Try.f10 false true false false) := by
  refine returnsInHanded_of_change (C := Try.checked) own started (by kernel_rfl) Try.func10
    (ChangeSpec.witness6 (enc := enc) (C := Try.checked) false ⟨#[], #[.slice none 0 0], []⟩ 8 (by kernel_rfl) (by kernel_rfl) (by kernel_rfl) (by kernel_rfl)) ?_
  intro W base args ds gs before hval0 hW hcnd _
  have hval : ∀ (j : Nat) t v, Try.f10.params[j]? = some t → args[j]? = some v → Value.okWide Try.prog W .any base t v := hval0
  have hW' := hW
  obtain ⟨p, q, hA0, hV, rfl, hfz, hnd⟩ := hW
  have hA : DataW.TrodAll enc Try.prog W 0 (fun _ => true) true Try.f10.params.toList args.toList ds p := hA0
  rw [Try.params10] at hA hval
  obtain ⟨v0, vs0, d0, ds0, p0, q0, hargs, rfl, rfl, h0, r0⟩ := trodAll_cons hA
  obtain ⟨rfl, rfl, rfl⟩ := trodAll_nil r0
  obtain rfl : args = #[v0] := by cases args; simp_all
  obtain ⟨rfl, rfl⟩ := trodVars_none hV
  obtain ⟨a0, len0, cap0, rfl⟩ := okWide_slice Try.underlying22 (hval 0 22 v0 rfl rfl)
  have k0 := h0
  have lt0 : ∀ x ∈ p0, x.block < W.heap.size := by obtain ⟨m, hm⟩ := k0; exact DataW.trod_lt m _ _ _ hm
  obtain ⟨z0, w0⟩ : ∃ zs, IsRow .i64 W a0 len0 cap0 zs := by
    obtain ⟨fuel, hf⟩ := h0
    rcases open_ints Try.underlying22 Try.underlying3 (by kernel_rfl) hf with ⟨hcs, _⟩ | ⟨x, l, c, zs, hcs, _, hl, hm, hz, _, hcell, hwz⟩
    · simp [Value.cells] at hcs
      obtain ⟨rfl, rfl, rfl⟩ := hcs
      exact ⟨[], .inl ⟨rfl, rfl, rfl, rfl⟩⟩
    · simp [Value.cells] at hcs
      obtain ⟨rfl, rfl, rfl⟩ := hcs
      exact ⟨zs, .inr ⟨_, rfl, hl, hm, by simpa using hz, hcell, hwz⟩⟩
  clear hA0 hval0
  refine (walk_FnExactLeastDegree W a0 len0 cap0 z0 w0).mono fun e W' ⟨he, bel⟩ => ?_
  subst he
  exact ⟨_, rfl, _, _, _, [], _, [], hW', trodAll_mk1 (shut_bool Try.underlying4 _), (trodAll_cons_mk (Below.trod laidOut (by kernel_rfl) (of_decide_eq_true (by kernel_rfl)) k0 bel lt0) trodAll_mk0), rfl, bel.frame _, fun h => by cases h⟩

theorem over_FnExactLeastDegree : Rows.fnExactLeastDegreeRow.holds Try.pinned (OpenSpec.ofChange Rows.fnExactLeastDegreeSpec) :=
  OpenClaim.holds_of_wide 10 Try.f10 rfl rfl rfl rfl rfl rfl rfl ⟨rfl, rfl, rfl, rfl, rfl⟩ rfl rfl rfl rfl rfl (by kernel_rfl) Try.func10 (by kernel_rfl)
    (of_decide_eq_true (by kernel_rfl)) (by unfold Func.isWrapper; first | (rw [if_pos (by decide +kernel)]; kernel_rfl) | (rw [if_neg (by decide +kernel)]; exact ⟨rfl, rfl⟩))
    (fun os started H enc _ => lifted_FnExactLeastDegree os started H enc)

theorem fnExactLeastDegree_proved : Rows.FnExactLeastDegreeSaid := over_FnExactLeastDegree
#print axioms fnExactLeastDegree_proved
end Go.Proofs.Ythjadabaojcmoaa
