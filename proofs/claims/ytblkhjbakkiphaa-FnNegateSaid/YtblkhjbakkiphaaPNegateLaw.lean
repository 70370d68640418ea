/- The statement FnNegate: for every drawn argument the law holds. -/
import Derived.Test.YtblkhjbakkiphaaDrawCol
import Derived.Test.YtblkhjbakkiphaaColF
import Derived.Test.YtblkhjbakkiphaaColLaws
namespace Go.Proofs.Ytblkhjbakkiphaa
open Go.ChangeShapes Go.WideShapes Go.ChangeAt Go.RowKit

set_option maxHeartbeats 2000000 in
theorem walk_FnNegate (w : World) (A0 : Option Addr) (n0 cap0 : Nat) (zs0 : List Int) (hz0 : IsRow .u8 w A0 n0 cap0 zs0) :
    Calls Try.prog 9 #[.slice A0 n0 cap0] w fun e w' => e = .returned (.bool true) ∧ Below w.heap.size w w' := by
  obtain ⟨hr, hc⟩ := hz0.rowB
  clear hz0
  by_cases hx : n0 ≤ 1048576
  rotate_left
  · clear hr
    go_enter Try.func9, Try.ntmps9
    go_wp2_with fail
    go_ret
    exact ⟨rfl, Below.refl _ _⟩
  have D := Lib.hid (drawNegateColumn_any A0 n0 cap0 w hr hc hx)
  clear hr
  go_enter Try.func9, Try.ntmps9
  go_wp2_with fail
  refine D.out.mono ?_
  rintro e w1 ⟨c, ⟨rfl, hc1⟩, hb⟩
  have B := Lib.hid hb; clear hb D
  have hmc : c.size ≤ maxLen := by unfold maxLen; omega
  cases hB : colB (bl c)
  · have hL : negL (bl c) = [] := by unfold negL; rw [hB]; rfl
    have C1 := Lib.hid (fun W => neg_impl c W hmc)
    rw [hB, hL] at C1
    have C2 := Lib.hid (fun W => neg_spec c W hmc)
    rw [hB, hL] at C2
    clear hB hL
    go_wp2_with fail
    refine (C1.out _).mono ?_
    rintro e w' ⟨rfl, hw⟩
    have B := Lib.hid (below_two B.out hw); clear hw
    go_wp2_with fail
    refine (C2.out _).mono ?_
    rintro e w' ⟨rfl, hw⟩
    have B := Lib.hid (below_two B.out hw); clear hw
    go_wp2_with fail
    go_ret
    exact ⟨rfl, B.out⟩
  · have hz := col_size hB
    have h0 : 0 < c.size := by omega
    obtain ⟨d, hd⟩ : ∃ d, d = str (negL (bl c)) := ⟨_, rfl⟩
    have hbd : bl d = negL (bl c) := by rw [hd, bl_str]
    obtain ⟨z, hzz⟩ : ∃ z, z = str (sumL (bl c) (bl d)) := ⟨_, rfl⟩
    have hbz : bl z = sumL (bl c) (bl d) := by rw [hzz, bl_str]
    have F := neg_facts hB (by rw [length_bl]; exact h0)
    rw [← hbd, ← hbz] at F
    obtain ⟨f1, f2, f3, f4, f5, f6⟩ := F
    have hmd := col_max f1
    have hmz := col_max f3
    have f7 := valOf_yes f3
    rw [f4] at f7
    have bc := sgnOf_bd (bl c)
    have bd := sgnOf_bd (bl d)
    have f8 : sgnOf (bl d) = -sgnOf (bl c) ∨ sgnOf (bl d) = sgnOf (bl c) ∧ c[0].toNat = 53 := f6
    have C1 := Lib.hid (fun W => neg_impl c W hmc)
    rw [hB, ← hd] at C1
    have C2 := Lib.hid (fun W => neg_spec c W hmc)
    rw [hB, ← hd] at C2
    have C3 := Lib.hid (fun W => add_impl c d W hmc hmd)
    rw [f2, ← hzz] at C3
    have C4 := Lib.hid (fun W => neg_impl d W hmd)
    rw [f1, f5, str_bl] at C4
    have C5 := Lib.hid (fun W => signedOf_impl c W hmc)
    rw [hB] at C5
    have C6 := Lib.hid (fun W => signedOf_impl d W hmd)
    rw [f1] at C6
    have C7 := Lib.hid (fun W => valueOf_impl z W hmz)
    rw [f7] at C7
    generalize sgnOf (bl c) = n at *
    generalize sgnOf (bl d) = m at *
    clear hB hd hbd hzz hbz f1 f2 f3 f4 f5 f6 f7
    by_cases hm : m = -n
    · subst hm
      clear f8
      go_wp2_with fail
      refine (C1.out _).mono ?_
      rintro e w' ⟨rfl, hw⟩
      have B := Lib.hid (below_two B.out hw); clear hw
      go_wp2_with fail
      refine (C2.out _).mono ?_
      rintro e w' ⟨rfl, hw⟩
      have B := Lib.hid (below_two B.out hw); clear hw
      go_wp2_with fail
      refine (C3.out _).mono ?_
      rintro e w' ⟨rfl, hw⟩
      have B := Lib.hid (below_two B.out hw); clear hw
      go_wp2_with fail
      refine (C4.out _).mono ?_
      rintro e w' ⟨rfl, hw⟩
      have B := Lib.hid (below_two B.out hw); clear hw
      go_wp2_with fail
      refine (C5.out _).mono ?_
      rintro e w' ⟨rfl, rfl⟩
      go_wp2_with fail
      refine (C6.out _).mono ?_
      rintro e w' ⟨rfl, rfl⟩
      go_wp2_with fail
      refine (C7.out _).mono ?_
      rintro e w' ⟨rfl, rfl⟩
      go_wp2_with fail
      go_ret
      exact ⟨rfl, B.out⟩
    · have hm2 : (m == -n) = false := by simp [hm]
      obtain ⟨e1, e2⟩ := f8.resolve_left hm
      have e3 : ((c[0].toNat : Int) == 53) = true := by simp [e2]
      subst e1
      clear f8 hm e2
      go_wp2_with fail
      refine (C1.out _).mono ?_
      rintro e w' ⟨rfl, hw⟩
      have B := Lib.hid (below_two B.out hw); clear hw
      go_wp2_with fail
      refine (C2.out _).mono ?_
      rintro e w' ⟨rfl, hw⟩
      have B := Lib.hid (below_two B.out hw); clear hw
      go_wp2_with fail
      refine (C3.out _).mono ?_
      rintro e w' ⟨rfl, hw⟩
      have B := Lib.hid (below_two B.out hw); clear hw
      go_wp2_with fail
      refine (C4.out _).mono ?_
      rintro e w' ⟨rfl, hw⟩
      have B := Lib.hid (below_two B.out hw); clear hw
      go_wp2_with fail
      refine (C5.out _).mono ?_
      rintro e w' ⟨rfl, rfl⟩
      go_wp2_with fail
      refine (C6.out _).mono ?_
      rintro e w' ⟨rfl, rfl⟩
      go_wp2_with fail
      refine (C7.out _).mono ?_
      rintro e w' ⟨rfl, rfl⟩
      go_wp2_with fail
      go_ret
      exact ⟨rfl, B.out⟩

set_option maxRecDepth 100000 in
theorem lifted_FnNegate (os : Os) (started : os.Started) (H : Type) (enc : TypeId × Value → H) :
    ReturnsInHanded {} Try.checked os 9 .any (Rows.fnNegateSpec.pre6 enc Try.prog Try.f9 Rows.fnNegateRow.domain false) (Rows.fnNegateSpec.post enc Try.prog Try.f9 false true false false) := by
  refine returnsInHanded_of_change (C := Try.checked) own started (by kernel_rfl) Try.func9
    (ChangeSpec.witness6 (enc := enc) (C := Try.checked) false ⟨#[], #[.slice none 0 0], []⟩ 8 (by kernel_rfl) (by kernel_rfl) (by kernel_rfl) (by kernel_rfl)) ?_
  intro W base args ds gs before hval0 hW hcnd _
  have hval : ∀ (j : Nat) t v, Try.f9.params[j]? = some t → args[j]? = some v → Value.okWide Try.prog W .any base t v := hval0
  have hW' := hW
  obtain ⟨p, q, hA0, hV, rfl, hfz, hnd⟩ := hW
  have hA : DataW.TrodAll enc Try.prog W 0 (fun _ => true) true Try.f9.params.toList args.toList ds p := hA0
  rw [Try.params9] at hA hval
  obtain ⟨v0, vs0, d0, ds0, p0, q0, hargs, rfl, rfl, h0, r0⟩ := trodAll_cons hA
  obtain ⟨rfl, rfl, rfl⟩ := trodAll_nil r0
  obtain rfl : args = #[v0] := by cases args; simp_all
  obtain ⟨rfl, rfl⟩ := trodVars_none hV
  obtain ⟨a0, len0, cap0, rfl⟩ := okWide_slice Try.underlying22 (hval 0 22 v0 rfl rfl)
  have k0 := h0
  have lt0 : ∀ x ∈ p0, x.block < W.heap.size := by obtain ⟨m, hm⟩ := k0; exact DataW.trod_lt m _ _ _ hm
  obtain ⟨z0, w0⟩ : ∃ zs, IsRow .u8 W a0 len0 cap0 zs := by
    obtain ⟨fuel, hf⟩ := h0
    rcases open_ints Try.underlying22 Try.underlying5 (by kernel_rfl) hf with ⟨hcs, _⟩ | ⟨x, l, c, zs, hcs, _, hl, hm, hz, _, hcell, hwz⟩
    · simp [Value.cells] at hcs
      obtain ⟨rfl, rfl, rfl⟩ := hcs
      exact ⟨[], .inl ⟨rfl, rfl, rfl, rfl⟩⟩
    · simp [Value.cells] at hcs
      obtain ⟨rfl, rfl, rfl⟩ := hcs
      exact ⟨zs, .inr ⟨_, rfl, hl, hm, by simpa using hz, hcell, hwz⟩⟩
  clear hA0 hval0
  refine (walk_FnNegate W a0 len0 cap0 z0 w0).mono fun e W' ⟨he, bel⟩ => ?_
  subst he
  exact ⟨_, rfl, _, _, _, [], _, [], hW', trodAll_mk1 (shut_bool Try.underlying4 _), (trodAll_cons_mk (Below.trod laidOut (by kernel_rfl) (of_decide_eq_true (by kernel_rfl)) k0 bel lt0) trodAll_mk0), rfl, bel.frame _, fun h => by cases h⟩

theorem over_FnNegate : Rows.fnNegateRow.holds Try.pinned (OpenSpec.ofChange Rows.fnNegateSpec) :=
  OpenClaim.holds_of_wide 9 Try.f9 rfl rfl rfl rfl rfl rfl rfl ⟨rfl, rfl, rfl, rfl, rfl⟩ rfl rfl rfl rfl rfl (by kernel_rfl) Try.func9 (by kernel_rfl)
    (of_decide_eq_true (by kernel_rfl)) (by unfold Func.isWrapper; first | (rw [if_pos (by decide +kernel)]; kernel_rfl) | (rw [if_neg (by decide +kernel)]; exact ⟨rfl, rfl⟩))
    (fun os started H enc _ => lifted_FnNegate os started H enc)

theorem fnNegate_proved : Rows.FnNegateSaid := over_FnNegate
#print axioms fnNegate_proved
end Go.Proofs.Ytblkhjbakkiphaa
