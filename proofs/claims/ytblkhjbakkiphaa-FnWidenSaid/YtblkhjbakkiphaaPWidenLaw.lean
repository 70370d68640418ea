/- The statement FnWiden: for every drawn argument the law holds. -/
import Derived.Test.YtblkhjbakkiphaaDrawCol
import Derived.Test.YtblkhjbakkiphaaColF
import Derived.Test.YtblkhjbakkiphaaColLaws
namespace Go.Proofs.Ytblkhjbakkiphaa
open Go.ChangeShapes Go.WideShapes Go.ChangeAt Go.RowKit

set_option maxHeartbeats 2000000 in
theorem walk_FnWiden (w : World) (A0 : Option Addr) (n0 cap0 : Nat) (zs0 : List Int) (hz0 : IsRow .u8 w A0 n0 cap0 zs0) :
    Calls Try.prog 11 #[.slice A0 n0 cap0] w fun e w' => e = .returned (.bool true) ∧ Below w.heap.size w w' := by
  obtain ⟨hr, hc⟩ := hz0.rowB
  clear hz0
  by_cases hx : n0 ≤ 1048576
  rotate_left
  · clear hr
    go_enter Try.func11, Try.ntmps11
    go_wp2_with fail
    go_ret
    exact ⟨rfl, Below.refl _ _⟩
  have D := Lib.hid (drawWidenColumn_any A0 n0 cap0 w hr hc hx)
  clear hr
  go_enter Try.func11, Try.ntmps11
  go_wp2_with fail
  refine D.out.mono ?_
  rintro e w1 ⟨c, y, ⟨rfl, hc1, hy1⟩, hb⟩
  have B := Lib.hid hb; clear hb D
  have hmc : c.size ≤ maxLen := by unfold maxLen; omega
  unfold I64 at hy1
  cases hB : colB (bl c)
  · obtain ⟨e1, e2⟩ := widen_no (width := y) hB
    have C1 := Lib.hid (fun W => widen_impl c y W hmc)
    rw [e1, e2] at C1
    have C2 := Lib.hid (fun W => widen_spec c y W hmc)
    rw [e1, e2] at C2
    have C3 := Lib.hid (fun W => signedOf_impl c W hmc)
    rw [hB] at C3
    clear hB e1 e2
    go_wp2_with fail
    refine (C1.out _).mono ?_
    rintro e w' ⟨rfl, hw⟩
    have B := Lib.hid (below_two B.out hw); clear hw
    go_wp2_with fail
    refine (C2.out _).mono ?_
    rintro e w' ⟨rfl, hw⟩
    have B := Lib.hid (below_two B.out hw); clear hw
    go_wp2_with fail
    refine (C3.out _).mono ?_
    rintro e w' ⟨rfl, rfl⟩
    go_wp2_with fail
    go_ret
    exact ⟨rfl, B.out⟩
  · obtain ⟨e1, e2⟩ := widen_yes (width := y) hB
    have f := widen_facts (width := y) hB
    have bc := sgnOf_bd (bl c)
    have hz := col_size hB
    have g1 := colOf_sgn hB
    rw [length_bl] at g1
    have C3 := Lib.hid (fun W => signedOf_impl c W hmc)
    rw [hB] at C3
    have C4 := Lib.hid (fun W => widthFor_impl (sgnOf (bl c)) W)
    cases hK : colOfB (sgnOf (bl c)) y
    · have hL := colOfL_no hK
      rw [hK] at f
      have C1 := Lib.hid (fun W => widen_impl c y W hmc)
      rw [e1, e2, hK, hL] at C1
      have C2 := Lib.hid (fun W => widen_spec c y W hmc)
      rw [e1, e2, hK, hL] at C2
      generalize widthFor (sgnOf (bl c)) = v at *
      generalize sgnOf (bl c) = n at *
      clear hB e1 e2 hK hL g1
      by_cases h1 : 1 ≤ y
      · by_cases h2 : y ≤ 12
        · have h3 : ¬ v ≤ y := by
            intro h
            rw [decide_eq_true h1, decide_eq_true h2, decide_eq_true h] at f
            cases f
          clear f
          go_wp2_with fail
          refine (C1.out _).mono ?_
          rintro e w' ⟨rfl, hw⟩
          have B := Lib.hid (below_two B.out hw); clear hw
          go_wp2_with fail
          refine (C2.out _).mono ?_
          rintro e w' ⟨rfl, hw⟩
          have B := Lib.hid (below_two B.out hw); clear hw
          go_wp2_with fail
          refine (C3.out _).mono ?_
          rintro e w' ⟨rfl, rfl⟩
          go_wp2_with fail
          refine (C4.out _).mono ?_
          rintro e w' ⟨rfl, hw⟩
          have B := Lib.hid (below_two B.out hw); clear hw
          go_wp2_with fail
          refine (C4.out _).mono ?_
          rintro e w' ⟨rfl, hw⟩
          have B := Lib.hid (below_two B.out hw); clear hw
          go_wp2_with fail
          go_ret
          exact ⟨ret_bool (by simp <;> omega), B.out⟩
        · clear f
          go_wp2_with fail
          refine (C1.out _).mono ?_
          rintro e w' ⟨rfl, hw⟩
          have B := Lib.hid (below_two B.out hw); clear hw
          go_wp2_with fail
          refine (C2.out _).mono ?_
          rintro e w' ⟨rfl, hw⟩
          have B := Lib.hid (below_two B.out hw); clear hw
          go_wp2_with fail
          refine (C3.out _).mono ?_
          rintro e w' ⟨rfl, rfl⟩
          go_wp2_with fail
          go_ret
          exact ⟨rfl, B.out⟩
      · clear f
        go_wp2_with fail
        refine (C1.out _).mono ?_
        rintro e w' ⟨rfl, hw⟩
        have B := Lib.hid (below_two B.out hw); clear hw
        go_wp2_with fail
        refine (C2.out _).mono ?_
        rintro e w' ⟨rfl, hw⟩
        have B := Lib.hid (below_two B.out hw); clear hw
        go_wp2_with fail
        refine (C3.out _).mono ?_
        rintro e w' ⟨rfl, rfl⟩
        go_wp2_with fail
        go_ret
        exact ⟨rfl, B.out⟩
    · obtain ⟨sh, sg⟩ := colOf_shows hK
      rw [hK] at f
      obtain ⟨d, hd⟩ : ∃ d, d = str (colOfL (sgnOf (bl c)) y) := ⟨_, rfl⟩
      have hbd : bl d = colOfL (sgnOf (bl c)) y := by rw [hd, bl_str]
      rw [← hbd] at sh sg
      have hcd := sh.col
      have hmd := col_max hcd
      obtain ⟨k1, k2⟩ := widen_yes (width := (c.size : Int)) hcd
      rw [sg] at k1 k2
      have C1 := Lib.hid (fun W => widen_impl c y W hmc)
      rw [e1, e2, hK, ← hd] at C1
      have C2 := Lib.hid (fun W => widen_spec c y W hmc)
      rw [e1, e2, hK, ← hd] at C2
      have C5 := Lib.hid (fun W => widen_impl d (c.size : Int) W hmd)
      rw [k1, k2, g1.1, g1.2, str_bl] at C5
      have C6 := Lib.hid (fun W => signedOf_impl d W hmd)
      rw [hcd, sg] at C6
      have h1 : 1 ≤ y := by
        apply Classical.byContradiction; intro h
        rw [decide_eq_false h] at f; cases f
      have h2 : y ≤ 12 := by
        apply Classical.byContradiction; intro h
        rw [decide_eq_true h1, decide_eq_false h] at f; cases f
      have h3 : widthFor (sgnOf (bl c)) ≤ y := by
        apply Classical.byContradiction; intro h
        rw [decide_eq_true h1, decide_eq_true h2, decide_eq_false h] at f; cases f
      generalize widthFor (sgnOf (bl c)) = v at *
      generalize sgnOf (bl c) = n at *
      clear hB e1 e2 hK g1 f hd hbd sh sg hcd k1 k2
      go_wp2_with fail
      refine (C1.out _).mono ?_
      rintro e w' ⟨rfl, hw⟩
      have B := Lib.hid (below_two B.out hw); clear hw
      go_wp2_with fail
      refine (C2.out _).mono ?_
      rintro e w' ⟨rfl, hw⟩
      have B := Lib.hid (below_two B.out hw); clear hw
      go_wp2_with fail
      refine (C3.out _).mono ?_
      rintro e w' ⟨rfl, rfl⟩
      go_wp2_with fail
      refine (C4.out _).mono ?_
      rintro e w' ⟨rfl, hw⟩
      have B := Lib.hid (below_two B.out hw); clear hw
      go_wp2_with fail
      refine (C5.out _).mono ?_
      rintro e w' ⟨rfl, hw⟩
      have B := Lib.hid (below_two B.out hw); clear hw
      go_wp2_with fail
      refine (C6.out _).mono ?_
      rintro e w' ⟨rfl, rfl⟩
      go_wp2_with fail
      go_ret
      exact ⟨rfl, B.out⟩

set_option maxRecDepth 100000 in
theorem lifted_FnWiden (os : Os) (started : os.Started) (H : Type) (enc : TypeId × Value → H) :
    ReturnsInHanded {} Try.checked os 11 .any (Rows.fnWidenSpec.pre6 enc Try.prog Try.f11 Rows.fnWidenRow.domain false) (Rows.fnWidenSpec.post enc Try.prog Try.f11 false true false false) := by
  refine returnsInHanded_of_change (C := Try.checked) own started (by kernel_rfl) Try.func11
    (ChangeSpec.witness6 (enc := enc) (C := Try.checked) false ⟨#[], #[.slice none 0 0], []⟩ 8 (by kernel_rfl) (by kernel_rfl) (by kernel_rfl) (by kernel_rfl)) ?_
  intro W base args ds gs before hval0 hW hcnd _
  have hval : ∀ (j : Nat) t v, Try.f11.params[j]? = some t → args[j]? = some v → Value.okWide Try.prog W .any base t v := hval0
  have hW' := hW
  obtain ⟨p, q, hA0, hV, rfl, hfz, hnd⟩ := hW
  have hA : DataW.TrodAll enc Try.prog W 0 (fun _ => true) true Try.f11.params.toList args.toList ds p := hA0
  rw [Try.params11] at hA hval
  obtain ⟨v0, vs0, d0, ds0, p0, q0, hargs, rfl, rfl, h0, r0⟩ := trodAll_cons hA
  obtain ⟨rfl, rfl, rfl⟩ := trodAll_nil r0
  obtain rfl : args = #[v0] := by cases args; simp_all
  obtain ⟨rfl, rfl⟩ := trodVars_none hV
  obtain ⟨a0, len0, cap0, rfl⟩ := okWide_slice Try.underlying22 (hval 0 22 v0 rfl rfl)
  have k0 := h0
  have lt0 : ∀ x ∈ p0, x.block < W.heap.size := by obtain ⟨m, hm⟩ := k0; exact DataW.trod_lt m _ _ _ hm
  obtain ⟨z0, w0⟩ : ∃ zs, IsRow .u8 W a0 len0 cap0 zs := by
    obtain ⟨fuel, hf⟩ := h0
    rcases open_ints Try.underlying22 Try.underlying5 (by kernel_rfl) hf with ⟨hcs, _⟩ | ⟨x, l, c, zs, hcs, _, hl, hm, hz, _, hcell, hwz⟩
    · simp [Value.cells] at hcs
      obtain ⟨rfl, rfl, rfl⟩ := hcs
      exact ⟨[], .inl ⟨rfl, rfl, rfl, rfl⟩⟩
    · simp [Value.cells] at hcs
      obtain ⟨rfl, rfl, rfl⟩ := hcs
      exact ⟨zs, .inr ⟨_, rfl, hl, hm, by simpa using hz, hcell, hwz⟩⟩
  clear hA0 hval0
  refine (walk_FnWiden W a0 len0 cap0 z0 w0).mono fun e W' ⟨he, bel⟩ => ?_
  subst he
  exact ⟨_, rfl, _, _, _, [], _, [], hW', trodAll_mk1 (shut_bool Try.underlying4 _), (trodAll_cons_mk (Below.trod laidOut (by kernel_rfl) (of_decide_eq_true (by kernel_rfl)) k0 bel lt0) trodAll_mk0), rfl, bel.frame _, fun h => by cases h⟩

theorem over_FnWiden : Rows.fnWidenRow.holds Try.pinned (OpenSpec.ofChange Rows.fnWidenSpec) :=
  OpenClaim.holds_of_wide 11 Try.f11 rfl rfl rfl rfl rfl rfl rfl ⟨rfl, rfl, rfl, rfl, rfl⟩ rfl rfl rfl rfl rfl (by kernel_rfl) Try.func11 (by kernel_rfl)
    (of_decide_eq_true (by kernel_rfl)) (by unfold Func.isWrapper; first | (rw [if_pos (by decide +kernel)]; kernel_rfl) | (rw [if_neg (by decide +kernel)]; exact ⟨rfl, rfl⟩))
    (fun os started H enc _ => lifted_FnWiden os started H enc)

theorem fnWiden_proved : Rows.FnWidenSaid := over_FnWiden
#print axioms fnWiden_proved
end Go.Proofs.Ytblkhjbakkiphaa
