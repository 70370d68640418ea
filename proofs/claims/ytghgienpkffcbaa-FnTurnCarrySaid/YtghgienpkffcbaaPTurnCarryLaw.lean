/- The statement FnTurnCarry: for every drawn argument the law holds. -/
import Derived.Test.YtghgienpkffcbaaDrawCol
import Derived.Test.YtghgienpkffcbaaCarryWalk
import Derived.Test.YtghgienpkffcbaaColD
namespace Go.Proofs.Ytghgienpkffcbaa
open Go.ChangeShapes Go.WideShapes Go.ChangeAt Go.RowKit

set_option maxHeartbeats 2000000 in
theorem walk_FnTurnCarry (w : World) (A0 : Option Addr) (n0 cap0 : Nat) (zs0 : List Int) (hz0 : IsRow .u8 w A0 n0 cap0 zs0) :
    Calls Try.prog 9 #[.slice A0 n0 cap0] w fun e w' => e = .returned (.bool true) ∧ Below w.heap.size w w' := by
  obtain ⟨hr, hc⟩ := hz0.rowB
  clear hz0
  by_cases hx : n0 ≤ 1048576
  rotate_left
  · clear hr
    go_enter Try.func9, Try.ntmps9
    go_wp2_with fail
    go_ret
    exact ⟨rfl, Below.refl _ _⟩
  have D := Lib.hid (drawTurnWheels_any A0 n0 cap0 w hr hc hx)
  clear hr
  go_enter Try.func9, Try.ntmps9
  go_wp2_with fail
  refine D.out.mono ?_
  rintro e w1 ⟨a, b, ⟨rfl, ha, hb1⟩, hb⟩
  have B := Lib.hid hb; clear hb D
  have hma : a.size ≤ maxLen := by unfold maxLen; omega
  have hmb : b.size ≤ maxLen := by unfold maxLen; omega
  cases hB : alikeB (bl a) (bl b)
  · have hL : turnL (bl a) (bl b) = [] := by unfold turnL; rw [hB]; rfl
    have C1 := Lib.hid (fun W => turn_impl a b W hma hmb)
    rw [hB, hL] at C1
    have C2 := Lib.hid (fun W => turn_spec a b W hma hmb)
    rw [hB, hL] at C2
    clear hB hL
    go_wp2_with fail
    refine (C1.out _).mono ?_
    rintro e w' ⟨rfl, hw⟩
    have B := Lib.hid (below_two B.out hw); clear hw
    go_wp2_with fail
    refine (C2.out _).mono ?_
    rintro e w' ⟨rfl, hw⟩
    have B := Lib.hid (below_two B.out hw); clear hw
    go_wp2_with fail
    go_ret
    exact ⟨rfl, B.out⟩
  · obtain ⟨hca, hcb, hl⟩ := alikeB_iff.1 hB
    have hza := col_size hca
    have hL : warnL (bl a) (bl b) = warnW (bl a) (bl b) := by unfold warnL; rw [if_pos hB]
    have hT : turnL (bl a) (bl b) = turnW (bl a) (bl b) := by unfold turnL; rw [if_pos hB]
    obtain ⟨m, hm⟩ : ∃ m, m = str (warnW (bl a) (bl b)) := ⟨_, rfl⟩
    obtain ⟨c, hc⟩ : ∃ c, c = str (turnW (bl a) (bl b)) := ⟨_, rfl⟩
    have hsm : m.size = a.size := by rw [hm, size_str, warnW_length hl, length_bl]
    have hsc : c.size = a.size := by rw [hc, size_str, turnW_length hl, length_bl]
    have hmm : m.size ≤ maxLen := by rw [hsm]; exact hma
    have hmc : c.size ≤ maxLen := by rw [hsc]; exact hma
    have hbm : bl m = warnW (bl a) (bl b) := by rw [hm, bl_str]
    have hbc : bl c = turnW (bl a) (bl b) := by rw [hc, bl_str]
    have hM : marksB (bl c) (bl m) = true := by rw [hbm, hbc]; exact pair_marks hB
    have hS : aheadL (bl c) (bl m) = sumL (bl a) (bl b) := by rw [hbm, hbc]; exact pair_end hB
    have hN : timesN (bl a) (bl b) = allN (bl c) (bl m) := by rw [hbm, hbc]; exact times_yes hB
    have C1 := Lib.hid (fun W => turn_impl a b W hma hmb)
    rw [hB, hT, ← hc] at C1
    have C2 := Lib.hid (fun W => turn_spec a b W hma hmb)
    rw [hB, hT, ← hc] at C2
    have C3 := Lib.hid (fun W => warn_impl a b W hma hmb)
    rw [hB, hL, ← hm] at C3
    have C4 := Lib.hid (fun W => warn_spec a b W hma hmb)
    rw [hB, hL, ← hm] at C4
    have C5 := Lib.hid (fun W => add_impl a b W hma hmb)
    rw [hB] at C5
    have C6 := Lib.hid (fun W => all_impl c m W hmc hmm)
    rw [hM, hS] at C6
    have C7 := Lib.hid (fun W => ahead_impl c m W hmc hmm)
    rw [hM, hS] at C7
    have C8 := Lib.hid (fun W => times_impl a b W hma hmb)
    rw [hN] at C8
    generalize str (sumL (bl a) (bl b)) = s at *
    generalize allN (bl c) (bl m) = n at *
    clear hB hL hT hm hc hca hcb hl hsm hsc hbm hbc hM hS hN
    go_wp2_with fail
    refine (C1.out _).mono ?_
    rintro e w' ⟨rfl, hw⟩
    have B := Lib.hid (below_two B.out hw); clear hw
    go_wp2_with fail
    refine (C2.out _).mono ?_
    rintro e w' ⟨rfl, hw⟩
    have B := Lib.hid (below_two B.out hw); clear hw
    go_wp2_with fail
    refine (C3.out _).mono ?_
    rintro e w' ⟨rfl, hw⟩
    have B := Lib.hid (below_two B.out hw); clear hw
    go_wp2_with fail
    refine (C4.out _).mono ?_
    rintro e w' ⟨rfl, hw⟩
    have B := Lib.hid (below_two B.out hw); clear hw
    go_wp2_with fail
    refine (C5.out _).mono ?_
    rintro e w' ⟨rfl, hw⟩
    have B := Lib.hid (below_two B.out hw); clear hw
    go_wp2_with fail
    refine (C6.out _).mono ?_
    rintro e w' ⟨rfl, hw⟩
    have B := Lib.hid (below_two B.out hw); clear hw
    go_wp2_with fail
    refine (C7.out _).mono ?_
    rintro e w' ⟨rfl, hw⟩
    have B := Lib.hid (below_two B.out hw); clear hw
    go_wp2_with fail
    refine (C8.out _).mono ?_
    rintro e w' ⟨rfl, hw⟩
    have B := Lib.hid (below_two B.out hw); clear hw
    go_wp2_with fail
    go_ret
    exact ⟨rfl, B.out⟩

set_option maxRecDepth 100000 in
theorem lifted_FnTurnCarry (os : Os) (started : os.Started) (H : Type) (enc : TypeId × Value → H) :
    ReturnsInHanded {} Try.checked os 9 .any (Rows.fnTurnCarrySpec.pre6 enc Try.prog Try.f9 Rows.fnTurnCarryRow.domain false) (Rows.fnTurnCarrySpec.post enc Try.prog Try.f9 false true false false) := by
  refine returnsInHanded_of_change (C := Try.checked) own started (by kernel_rfl) Try.func9
    (ChangeSpec.witness6 (enc := enc) (C := Try.checked) false ⟨#[], #[.slice none 0 0], []⟩ 8 (by kernel_rfl) (by kernel_rfl) (by kernel_rfl) (by kernel_rfl)) ?_
  intro W base args ds gs before hval0 hW hcnd _
  have hval : ∀ (j : Nat) t v, Try.f9.params[j]? = some t → args[j]? = some v → Value.okWide Try.prog W .any base t v := hval0
  have hW' := hW
  obtain ⟨p, q, hA0, hV, rfl, hfz, hnd⟩ := hW
  have hA : DataW.TrodAll enc Try.prog W 0 (fun _ => true) true Try.f9.params.toList args.toList ds p := hA0
  rw [Try.params9] at hA hval
  obtain ⟨v0, vs0, d0, ds0, p0, q0, hargs, rfl, rfl, h0, r0⟩ := trodAll_cons hA
  obtain ⟨rfl, rfl, rfl⟩ := trodAll_nil r0
  obtain rfl : args = #[v0] := by cases args; simp_all
  obtain ⟨rfl, rfl⟩ := trodVars_none hV
  obtain ⟨a0, len0, cap0, rfl⟩ := okWide_slice Try.underlying28 (hval 0 28 v0 rfl rfl)
  have k0 := h0
  have lt0 : ∀ x ∈ p0, x.block < W.heap.size := by obtain ⟨m, hm⟩ := k0; exact DataW.trod_lt m _ _ _ hm
  obtain ⟨z0, w0⟩ : ∃ zs, IsRow .u8 W a0 len0 cap0 zs := by
    obtain ⟨fuel, hf⟩ := h0
    rcases open_ints Try.underlying28 Try.underlying5 (by kernel_rfl) hf with ⟨hcs, _⟩ | ⟨x, l, c, zs, hcs, _, hl, hm, hz, _, hcell, hwz⟩
    · simp [Value.cells] at hcs
      obtain ⟨rfl, rfl, rfl⟩ := hcs
      exact ⟨[], .inl ⟨rfl, rfl, rfl, rfl⟩⟩
    · simp [Value.cells] at hcs
      obtain ⟨rfl, rfl, rfl⟩ := hcs
      exact ⟨zs, .inr ⟨_, rfl, hl, hm, by simpa using hz, hcell, hwz⟩⟩
  clear hA0 hval0
  refine (walk_FnTurnCarry W a0 len0 cap0 z0 w0).mono fun e W' ⟨he, bel⟩ => ?_
  subst he
  exact ⟨_, rfl, _, _, _, [], _, [], hW', trodAll_mk1 (shut_bool Try.underlying4 _), (trodAll_cons_mk (Below.trod laidOut (by kernel_rfl) (of_decide_eq_true (by kernel_rfl)) k0 bel lt0) trodAll_mk0), rfl, bel.frame _, fun h => by cases h⟩

theorem over_FnTurnCarry : Rows.fnTurnCarryRow.holds Try.pinned (OpenSpec.ofChange Rows.fnTurnCarrySpec) :=
  OpenClaim.holds_of_wide 9 Try.f9 rfl rfl rfl rfl rfl rfl rfl ⟨rfl, rfl, rfl, rfl, rfl⟩ rfl rfl rfl rfl rfl (by kernel_rfl) Try.func9 (by kernel_rfl)
    (of_decide_eq_true (by kernel_rfl)) (by unfold Func.isWrapper; first | (rw [if_pos (by decide +kernel)]; kernel_rfl) | (rw [if_neg (by decide +kernel)]; exact ⟨rfl, rfl⟩))
    (fun os started H enc _ => lifted_FnTurnCarry os started H enc)

theorem fnTurnCarry_proved : Rows.FnTurnCarrySaid := over_FnTurnCarry
#print axioms fnTurnCarry_proved
end Go.Proofs.Ytghgienpkffcbaa
