/- The statement FnExactTableValid: for every list the program's TableValid returns what the reference's returns, and leaves its argument alone. No conditions. -/
import Derived.Test.YtlneejhfjnjhjaaPoly
namespace Go.Proofs.Ytlneejhfjnjhjaa
open Go.ChangeShapes Go.WideShapes Go.ChangeAt Go.RowKit

set_option maxHeartbeats 1000000 in
theorem walk_FnExactTableValid (w : World) (A : Option Addr) (len cap : Nat) (zs : List Int) (hz : IsRow .i64 w A len cap zs) :
    Calls Try.prog 7 #[.slice A len cap] w fun e w' => e = .returned (.bool true) ∧ Below w.heap.size w w' := by
  obtain ⟨xs, rfl, hr, _⟩ := hz.row
  clear hz
  have R := Lib.hid hr; clear hr
  by_cases hx : xs.length ≤ 1048576
  · go_enter Try.func7, Try.ntmps7
    go_wp2_with fail
    refine (toIntS_any A cap xs _ R.out hx).mono ?_
    rintro e w1 ⟨A1, c1, rfl, o1, b1⟩
    have O1 := Lib.hid o1; have B1 := Lib.hid b1; clear o1 b1
    go_wp2_with fail
    refine (tableValid_spec A1 c1 xs _ _ O1.out.row (by omega)).mono ?_
    rintro e w' ⟨rfl, rfl⟩
    go_wp2_with fail
    refine (toIntS_any A cap xs _ ((R.out.keep B1.out).more B1.out.size) hx).mono ?_
    rintro e w2 ⟨A2, c2, rfl, o2, b2⟩
    have O2 := Lib.hid o2; have B2 := Lib.hid (B1.out.trans (b2.mono B1.out.size)); have G2 := Lib.hid b2.size; clear o2 b2
    go_wp2_with fail
    refine (tableValid_impl A2 c2 xs _ _ O2.out.row (by omega)).mono ?_
    rintro e w' ⟨rfl, rfl⟩
    go_wp2_with fail
    refine (toIntS_any A cap xs _ ((R.out.keep B2.out).more B2.out.size) hx).mono ?_
    rintro e w3 ⟨A3, c3, rfl, o3, b3⟩
    have O3 := Lib.hid o3; have B3 := Lib.hid (B2.out.trans (b3.mono B2.out.size)); have O2' := Lib.hid (O2.out.below b3 (Nat.le_refl _)); have G3 := Lib.hid b3.size; clear o3 b3
    go_wp2_with fail
    refine (eqIntS_any A2 A3 c2 c3 xs xs _ _ _ G3.out (Nat.le_refl _) O2'.out.row O3.out.row (by omega) (by omega)).mono ?_
    rw [eqB_refl]
    rintro e w4 ⟨rfl, k4⟩
    have B4 := Lib.hid (B3.out.trans (k4.to.mono B3.out.size)); clear k4
    go_wp2_with fail
    go_ret
    exact ⟨rfl, B4.out⟩
  · go_enter Try.func7, Try.ntmps7
    go_wp2_with fail
    go_ret
    exact ⟨rfl, Below.refl _ _⟩

set_option maxRecDepth 100000 in
theorem lifted_FnExactTableValid (os : Os) (started : os.Started) (H : Type) (enc : TypeId × Value → H) :
    ReturnsInHanded {} Try.checked os 7 .any (Rows.fnExactTableValidSpec.pre6 enc Try.prog Try.f7 Rows.fnExactTableValidRow.domain false) (Rows.fnExactTableValidSpec.post enc Try.prog Try.f7 false true false false) := by
  refine returnsInHanded_of_change (C := Try.checked) own started (by kernel_rfl) Try.func7
    (ChangeSpec.witness6 (enc := enc) (C := Try.checked) false ⟨#[], #[.slice none 0 0], []⟩ 8 (by kernel_rfl) (by kernel_rfl) (by kernel_rfl) (by kernel_rfl)) ?_
  intro W base args ds gs before hval0 hW hcnd _
  have hval : ∀ (j : Nat) t v, Try.f7.params[j]? = some t → args[j]? = some v → Value.okWide Try.prog W .any base t v := hval0
  have hW' := hW
  obtain ⟨p, q, hA0, hV, rfl, hfz, hnd⟩ := hW
  have hA : DataW.TrodAll enc Try.prog W 0 (fun _ => true) true Try.f7.params.toList args.toList ds p := hA0
  rw [Try.params7] at hA hval
  obtain ⟨v0, vs0, d0, ds0, p0, q0, hargs, rfl, rfl, h0, r0⟩ := trodAll_cons hA
  obtain ⟨rfl, rfl, rfl⟩ := trodAll_nil r0
  obtain rfl : args = #[v0] := by cases args; simp_all
  obtain ⟨rfl, rfl⟩ := trodVars_none hV
  obtain ⟨a0, len0, cap0, rfl⟩ := okWide_slice Try.underlying27 (hval 0 27 v0 rfl rfl)
  have k0 := h0
  have lt0 : ∀ x ∈ p0, x.block < W.heap.size := by obtain ⟨m, hm⟩ := k0; exact DataW.trod_lt m _ _ _ hm
  obtain ⟨z0, w0⟩ : ∃ zs, IsRow .i64 W a0 len0 cap0 zs := by
    obtain ⟨fuel, hf⟩ := h0
    rcases open_ints Try.underlying27 Try.underlying3 (by kernel_rfl) hf with ⟨hcs, _⟩ | ⟨x, l, c, zs, hcs, _, hl, hm, hz, _, hcell, hwz⟩
    · simp [Value.cells] at hcs
      obtain ⟨rfl, rfl, rfl⟩ := hcs
      exact ⟨[], .inl ⟨rfl, rfl, rfl, rfl⟩⟩
    · simp [Value.cells] at hcs
      obtain ⟨rfl, rfl, rfl⟩ := hcs
      exact ⟨zs, .inr ⟨_, rfl, hl, hm, by simpa using hz, hcell, hwz⟩⟩
  clear hA0 hval0
  refine (walk_FnExactTableValid W a0 len0 cap0 z0 w0).mono fun e W' ⟨he, bel⟩ => ?_
  subst he
  exact ⟨_, rfl, _, _, _, [], _, [], hW', trodAll_mk1 (shut_bool Try.underlying4 _), (trodAll_cons_mk (Below.trod laidOut (by kernel_rfl) (of_decide_eq_true (by kernel_rfl)) k0 bel lt0) trodAll_mk0), rfl, bel.frame _, fun h => by cases h⟩

theorem over_FnExactTableValid : Rows.fnExactTableValidRow.holds Try.pinned (OpenSpec.ofChange Rows.fnExactTableValidSpec) :=
  OpenClaim.holds_of_wide 7 Try.f7 rfl rfl rfl rfl rfl rfl rfl ⟨rfl, rfl, rfl, rfl, rfl⟩ rfl rfl rfl rfl rfl (by kernel_rfl) Try.func7 (by kernel_rfl)
    (of_decide_eq_true (by kernel_rfl)) (by unfold Func.isWrapper; first | (rw [if_pos (by decide +kernel)]; kernel_rfl) | (rw [if_neg (by decide +kernel)]; exact ⟨rfl, rfl⟩))
    (fun os started H enc _ => lifted_FnExactTableValid os started H enc)

theorem fnExactTableValid_proved : Rows.FnExactTableValidSaid := over_FnExactTableValid
#print axioms fnExactTableValid_proved
end Go.Proofs.Ytlneejhfjnjhjaa
