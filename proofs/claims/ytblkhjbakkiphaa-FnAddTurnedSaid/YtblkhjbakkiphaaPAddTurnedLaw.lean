/- The statement FnAddTurned: for every drawn argument the law holds. -/
import Derived.Test.YtblkhjbakkiphaaDrawCol
import Derived.Test.YtblkhjbakkiphaaColF
import Derived.Test.YtblkhjbakkiphaaColLaws
namespace Go.Proofs.Ytblkhjbakkiphaa
open Go.ChangeShapes Go.WideShapes Go.ChangeAt Go.RowKit

set_option maxHeartbeats 2000000 in
theorem walk_FnAddTurned (w : World) (A0 : Option Addr) (n0 cap0 : Nat) (zs0 : List Int) (hz0 : IsRow .u8 w A0 n0 cap0 zs0) :
    Calls Try.prog 7 #[.slice A0 n0 cap0] w fun e w' => e = .returned (.bool true) ∧ Below w.heap.size w w' := by
  obtain ⟨hr, hc⟩ := hz0.rowB
  clear hz0
  by_cases hx : n0 ≤ 1048576
  rotate_left
  · clear hr
    go_enter Try.func7, Try.ntmps7
    go_wp2_with fail
    go_ret
    exact ⟨rfl, Below.refl _ _⟩
  have D := Lib.hid (drawAddColumns_any A0 n0 cap0 w hr hc hx)
  clear hr
  go_enter Try.func7, Try.ntmps7
  go_wp2_with fail
  refine D.out.mono ?_
  rintro e w1 ⟨a, b, ⟨rfl, ha, hb1⟩, hb⟩
  have B := Lib.hid hb; clear hb D
  have hma : a.size ≤ maxLen := by unfold maxLen; omega
  have hmb : b.size ≤ maxLen := by unfold maxLen; omega
  cases hB : alikeB (bl a) (bl b)
  · have hL : sumL (bl a) (bl b) = [] := by unfold sumL; rw [hB]; rfl
    have C1 := Lib.hid (fun W => add_impl a b W hma hmb)
    rw [hB, hL] at C1
    have C2 := Lib.hid (fun W => add_spec a b W hma hmb)
    rw [hB, hL] at C2
    clear hB hL
    go_wp2_with fail
    refine (C1.out _).mono ?_
    rintro e w' ⟨rfl, hw⟩
    have B := Lib.hid (below_two B.out hw); clear hw
    go_wp2_with fail
    refine (C2.out _).mono ?_
    rintro e w' ⟨rfl, hw⟩
    have B := Lib.hid (below_two B.out hw); clear hw
    go_wp2_with fail
    go_ret
    exact ⟨rfl, B.out⟩
  · obtain ⟨hca, hcb, hl⟩ := alikeB_iff.1 hB
    have C1 := Lib.hid (fun W => add_impl a b W hma hmb)
    rw [hB] at C1
    have C2 := Lib.hid (fun W => add_spec a b W hma hmb)
    rw [hB] at C2
    obtain ⟨s, hs⟩ : ∃ s, s = str (sumL (bl a) (bl b)) := ⟨_, rfl⟩
    have hbl : bl s = sumL (bl a) (bl b) := by rw [hs, bl_str]
    rw [← hs] at C1 C2
    have hcs : colB (bl s) = true := by rw [hbl]; exact (sum_shows hB).col
    have hms := col_max hcs
    obtain ⟨z, hz⟩ : ∃ z, z = str (subL (bl a) (bl a)) := ⟨_, rfl⟩
    have hbz : bl z = subL (bl a) (bl a) := by rw [hz, bl_str]
    have f1 := sum_turned _ _ hB
    have f2 := sum_undone _ _ hB
    have f3 := sub_zero hca
    have f4 := sum_zero hca
    rw [← hbl] at f1 f2
    rw [← hbz] at f3 f4
    have f5 := alikeB_turn (bl a) (bl b)
    have hmz := col_max f3.2.1.col
    have f6 := valOf_yes f3.2.1.col
    rw [f3.2.2] at f6
    have C3 := Lib.hid (fun W => add_impl b a W hmb hma)
    rw [f5, hB, f1, hbl, ← hs] at C3
    have C4 := Lib.hid (fun W => sub_impl s b W hms hmb)
    rw [f2.1, f2.2, str_bl] at C4
    have C5 := Lib.hid (fun W => sub_impl a a W hma hma)
    rw [f3.1, ← hz] at C5
    have C6 := Lib.hid (fun W => add_impl a z W hma hmz)
    rw [f4.1, f4.2, str_bl] at C6
    have C7 := Lib.hid (fun W => valueOf_impl z W hmz)
    rw [f6] at C7
    clear hB hs hbl hcs hca hcb hl hz hbz f1 f2 f3 f4 f5 f6
    go_wp2_with fail
    refine (C1.out _).mono ?_
    rintro e w' ⟨rfl, hw⟩
    have B := Lib.hid (below_two B.out hw); clear hw
    go_wp2_with fail
    refine (C2.out _).mono ?_
    rintro e w' ⟨rfl, hw⟩
    have B := Lib.hid (below_two B.out hw); clear hw
    go_wp2_with fail
    refine (C3.out _).mono ?_
    rintro e w' ⟨rfl, hw⟩
    have B := Lib.hid (below_two B.out hw); clear hw
    go_wp2_with fail
    refine (C4.out _).mono ?_
    rintro e w' ⟨rfl, hw⟩
    have B := Lib.hid (below_two B.out hw); clear hw
    go_wp2_with fail
    refine (C5.out _).mono ?_
    rintro e w' ⟨rfl, hw⟩
    have B := Lib.hid (below_two B.out hw); clear hw
    go_wp2_with fail
    refine (C6.out _).mono ?_
    rintro e w' ⟨rfl, hw⟩
    have B := Lib.hid (below_two B.out hw); clear hw
    go_wp2_with fail
    refine (C7.out _).mono ?_
    rintro e w' ⟨rfl, rfl⟩
    go_wp2_with fail
    go_ret
    exact ⟨rfl, B.out⟩

set_option maxRecDepth 100000 in
theorem lifted_FnAddTurned (os : Os) (started : os.Started) (H : Type) (enc : TypeId × Value → H) :
    ReturnsInHanded {} Try.checked os 7 .any (Rows.fnAddTurnedSpec.pre6 enc Try.prog Try.f7 Rows.fnAddTurnedRow.domain false) (Rows.fnAddTurnedSpec.post enc Try.prog Try.f7 false true false false) := by
  refine returnsInHanded_of_change (C := Try.checked) own started (by kernel_rfl) Try.func7
    (ChangeSpec.witness6 (enc := enc) (C := Try.checked) false ⟨#[], #[.slice none 0 0], []⟩ 8 (by kernel_rfl) (by kernel_rfl) (by kernel_rfl) (by kernel_rfl)) ?_
  intro W base args ds gs before hval0 hW hcnd _
  have hval : ∀ (j : Nat) t v, Try.f7.params[j]? = some t → args[j]? = some v → Value.okWide Try.prog W .any base t v := hval0
  have hW' := hW
  obtain ⟨p, q, hA0, hV, rfl, hfz, hnd⟩ := hW
  have hA : DataW.TrodAll enc Try.prog W 0 (fun _ => true) true Try.f7.params.toList args.toList ds p := hA0
  rw [Try.params7] at hA hval
  obtain ⟨v0, vs0, d0, ds0, p0, q0, hargs, rfl, rfl, h0, r0⟩ := trodAll_cons hA
  obtain ⟨rfl, rfl, rfl⟩ := trodAll_nil r0
  obtain rfl : args = #[v0] := by cases args; simp_all
  obtain ⟨rfl, rfl⟩ := trodVars_none hV
  obtain ⟨a0, len0, cap0, rfl⟩ := okWide_slice Try.underlying22 (hval 0 22 v0 rfl rfl)
  have k0 := h0
  have lt0 : ∀ x ∈ p0, x.block < W.heap.size := by obtain ⟨m, hm⟩ := k0; exact DataW.trod_lt m _ _ _ hm
  obtain ⟨z0, w0⟩ : ∃ zs, IsRow .u8 W a0 len0 cap0 zs := by
    obtain ⟨fuel, hf⟩ := h0
    rcases open_ints Try.underlying22 Try.underlying5 (by kernel_rfl) hf with ⟨hcs, _⟩ | ⟨x, l, c, zs, hcs, _, hl, hm, hz, _, hcell, hwz⟩
    · simp [Value.cells] at hcs
      obtain ⟨rfl, rfl, rfl⟩ := hcs
      exact ⟨[], .inl ⟨rfl, rfl, rfl, rfl⟩⟩
    · simp [Value.cells] at hcs
      obtain ⟨rfl, rfl, rfl⟩ := hcs
      exact ⟨zs, .inr ⟨_, rfl, hl, hm, by simpa using hz, hcell, hwz⟩⟩
  clear hA0 hval0
  refine (walk_FnAddTurned W a0 len0 cap0 z0 w0).mono fun e W' ⟨he, bel⟩ => ?_
  subst he
  exact ⟨_, rfl, _, _, _, [], _, [], hW', trodAll_mk1 (shut_bool Try.underlying4 _), (trodAll_cons_mk (Below.trod laidOut (by kernel_rfl) (of_decide_eq_true (by kernel_rfl)) k0 bel lt0) trodAll_mk0), rfl, bel.frame _, fun h => by cases h⟩

theorem over_FnAddTurned : Rows.fnAddTurnedRow.holds Try.pinned (OpenSpec.ofChange Rows.fnAddTurnedSpec) :=
  OpenClaim.holds_of_wide 7 Try.f7 rfl rfl rfl rfl rfl rfl rfl ⟨rfl, rfl, rfl, rfl, rfl⟩ rfl rfl rfl rfl rfl (by kernel_rfl) Try.func7 (by kernel_rfl)
    (of_decide_eq_true (by kernel_rfl)) (by unfold Func.isWrapper; first | (rw [if_pos (by decide +kernel)]; kernel_rfl) | (rw [if_neg (by decide +kernel)]; exact ⟨rfl, rfl⟩))
    (fun os started H enc _ => lifted_FnAddTurned os started H enc)

theorem fnAddTurned_proved : Rows.FnAddTurnedSaid := over_FnAddTurned
#print axioms fnAddTurned_proved
end Go.Proofs.Ytblkhjbakkiphaa
