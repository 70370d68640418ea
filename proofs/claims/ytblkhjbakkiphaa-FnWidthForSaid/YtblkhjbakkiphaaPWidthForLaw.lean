/- The statement FnWidthFor: for every drawn argument the law holds. -/
import Derived.Test.YtblkhjbakkiphaaDrawCol
import Derived.Test.YtblkhjbakkiphaaColF
import Derived.Test.YtblkhjbakkiphaaColLaws
namespace Go.Proofs.Ytblkhjbakkiphaa
open Go.ChangeShapes Go.WideShapes Go.ChangeAt Go.RowKit

set_option maxHeartbeats 2000000 in
theorem walk_FnWidthFor (w : World) (A0 : Option Addr) (n0 cap0 : Nat) (zs0 : List Int) (hz0 : IsRow .u8 w A0 n0 cap0 zs0) :
    Calls Try.prog 3 #[.slice A0 n0 cap0] w fun e w' => e = .returned (.bool true) ∧ Below w.heap.size w w' := by
  obtain ⟨hr, hc⟩ := hz0.rowB
  clear hz0
  by_cases hx : n0 ≤ 1048576
  rotate_left
  · clear hr
    go_enter Try.func3, Try.ntmps3
    go_wp2_with fail
    go_ret
    exact ⟨rfl, Below.refl _ _⟩
  have D := Lib.hid (drawWidthFor_any A0 n0 cap0 w hr hc hx)
  clear hr
  go_enter Try.func3, Try.ntmps3
  go_wp2_with fail
  refine D.out.mono ?_
  rintro e w1 ⟨x, ⟨rfl, hx1⟩, hb⟩
  have B := Lib.hid hb; clear hb D
  unfold I64 at hx1
  have C1 := Lib.hid (fun W => widthFor_impl x W)
  have C2 := Lib.hid (fun W => widthFor_spec x W)
  have F := Lib.hid (fun (j : Nat) (h1 : 1 ≤ j) (h2 : j ≤ 12) => widthFor_iff x j h1 h2)
  generalize widthFor x = v at *
  go_wp2_with fail
  refine (C1.out _).mono ?_
  rintro e w' ⟨rfl, hw⟩
  have B := Lib.hid (below_two B.out hw); clear hw
  go_wp2_with fail
  refine (C2.out _).mono ?_
  rintro e w' ⟨rfl, rfl⟩
  clear C1 C2
  go_wp2_with fail
  go_loopw [5] (fun i wr => ∃ k : Nat, 1 ≤ k ∧ k ≤ 13 ∧ i = .int .i64 (k : Int) ∧ Hid (Below w.heap.size w wr)) (fun i _ => 13 - (intOf i).toNat)
  case atStart => exact ⟨1, by decide, by decide, rfl, B⟩
  case round =>
    obtain ⟨k, k1, k2, rfl, B⟩ := hrel
    by_cases h12 : k ≤ 12
    · have h12' : (k : Int) ≤ 12 := by omega
      have f := F.out k k1 h12
      by_cases hv : 0 < v
      · by_cases hvk : v ≤ (k : Int)
        · have hB : colOfB x (k : Int) = true := f.2 ⟨hv, hvk⟩
          have C3 := Lib.hid (columnOf_impl x (k : Int) wr)
          rw [hB] at C3
          clear hB f
          go_wp2_with fail
          refine C3.out.mono ?_
          rintro e w' ⟨rfl, hw⟩
          have B := Lib.hid (below_two B.out hw); clear hw
          go_wp2_with fail
          go_roundw
          case rel => exact ⟨k + 1, by omega, by omega, by go_num, B⟩
          case measure => simp [intOf] <;> omega
        · have hB : colOfB x (k : Int) = false := by rw [Bool.eq_false_iff]; intro h; exact hvk (f.1 h).2
          have C3 := Lib.hid (columnOf_impl x (k : Int) wr)
          rw [hB] at C3
          clear hB f
          go_wp2_with fail
          refine C3.out.mono ?_
          rintro e w' ⟨rfl, hw⟩
          have B := Lib.hid (below_two B.out hw); clear hw
          go_wp2_with fail
          go_roundw
          case rel => exact ⟨k + 1, by omega, by omega, by go_num, B⟩
          case measure => simp [intOf] <;> omega
      · have hB : colOfB x (k : Int) = false := by rw [Bool.eq_false_iff]; intro h; exact hv (f.1 h).1
        have C3 := Lib.hid (columnOf_impl x (k : Int) wr)
        rw [hB] at C3
        clear hB f
        go_wp2_with fail
        refine C3.out.mono ?_
        rintro e w' ⟨rfl, hw⟩
        have B := Lib.hid (below_two B.out hw); clear hw
        go_wp2_with fail
        go_roundw
        case rel => exact ⟨k + 1, by omega, by omega, by go_num, B⟩
        case measure => simp [intOf] <;> omega
    · have h12' : ¬ (k : Int) ≤ 12 := by omega
      go_wp2_with fail
      go_ret
      exact ⟨rfl, B.out⟩

set_option maxRecDepth 100000 in
theorem lifted_FnWidthFor (os : Os) (started : os.Started) (H : Type) (enc : TypeId × Value → H) :
    ReturnsInHanded {} Try.checked os 3 .any (Rows.fnWidthForSpec.pre6 enc Try.prog Try.f3 Rows.fnWidthForRow.domain false) (Rows.fnWidthForSpec.post enc Try.prog Try.f3 false true false false) := by
  refine returnsInHanded_of_change (C := Try.checked) own started (by kernel_rfl) Try.func3
    (ChangeSpec.witness6 (enc := enc) (C := Try.checked) false ⟨#[], #[.slice none 0 0], []⟩ 8 (by kernel_rfl) (by kernel_rfl) (by kernel_rfl) (by kernel_rfl)) ?_
  intro W base args ds gs before hval0 hW hcnd _
  have hval : ∀ (j : Nat) t v, Try.f3.params[j]? = some t → args[j]? = some v → Value.okWide Try.prog W .any base t v := hval0
  have hW' := hW
  obtain ⟨p, q, hA0, hV, rfl, hfz, hnd⟩ := hW
  have hA : DataW.TrodAll enc Try.prog W 0 (fun _ => true) true Try.f3.params.toList args.toList ds p := hA0
  rw [Try.params3] at hA hval
  obtain ⟨v0, vs0, d0, ds0, p0, q0, hargs, rfl, rfl, h0, r0⟩ := trodAll_cons hA
  obtain ⟨rfl, rfl, rfl⟩ := trodAll_nil r0
  obtain rfl : args = #[v0] := by cases args; simp_all
  obtain ⟨rfl, rfl⟩ := trodVars_none hV
  obtain ⟨a0, len0, cap0, rfl⟩ := okWide_slice Try.underlying22 (hval 0 22 v0 rfl rfl)
  have k0 := h0
  have lt0 : ∀ x ∈ p0, x.block < W.heap.size := by obtain ⟨m, hm⟩ := k0; exact DataW.trod_lt m _ _ _ hm
  obtain ⟨z0, w0⟩ : ∃ zs, IsRow .u8 W a0 len0 cap0 zs := by
    obtain ⟨fuel, hf⟩ := h0
    rcases open_ints Try.underlying22 Try.underlying5 (by kernel_rfl) hf with ⟨hcs, _⟩ | ⟨x, l, c, zs, hcs, _, hl, hm, hz, _, hcell, hwz⟩
    · simp [Value.cells] at hcs
      obtain ⟨rfl, rfl, rfl⟩ := hcs
      exact ⟨[], .inl ⟨rfl, rfl, rfl, rfl⟩⟩
    · simp [Value.cells] at hcs
      obtain ⟨rfl, rfl, rfl⟩ := hcs
      exact ⟨zs, .inr ⟨_, rfl, hl, hm, by simpa using hz, hcell, hwz⟩⟩
  clear hA0 hval0
  refine (walk_FnWidthFor W a0 len0 cap0 z0 w0).mono fun e W' ⟨he, bel⟩ => ?_
  subst he
  exact ⟨_, rfl, _, _, _, [], _, [], hW', trodAll_mk1 (shut_bool Try.underlying4 _), (trodAll_cons_mk (Below.trod laidOut (by kernel_rfl) (of_decide_eq_true (by kernel_rfl)) k0 bel lt0) trodAll_mk0), rfl, bel.frame _, fun h => by cases h⟩

theorem over_FnWidthFor : Rows.fnWidthForRow.holds Try.pinned (OpenSpec.ofChange Rows.fnWidthForSpec) :=
  OpenClaim.holds_of_wide 3 Try.f3 rfl rfl rfl rfl rfl rfl rfl ⟨rfl, rfl, rfl, rfl, rfl⟩ rfl rfl rfl rfl rfl (by kernel_rfl) Try.func3 (by kernel_rfl)
    (of_decide_eq_true (by kernel_rfl)) (by unfold Func.isWrapper; first | (rw [if_pos (by decide +kernel)]; kernel_rfl) | (rw [if_neg (by decide +kernel)]; exact ⟨rfl, rfl⟩))
    (fun os started H enc _ => lifted_FnWidthFor os started H enc)

theorem fnWidthFor_proved : Rows.FnWidthForSaid := over_FnWidthFor
#print axioms fnWidthFor_proved
end Go.Proofs.Ytblkhjbakkiphaa
