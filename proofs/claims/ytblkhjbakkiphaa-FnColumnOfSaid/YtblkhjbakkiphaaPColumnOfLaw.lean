/- The statement FnColumnOf: for every drawn argument the law holds. -/
import Derived.Test.YtblkhjbakkiphaaDrawCol
import Derived.Test.YtblkhjbakkiphaaColF
import Derived.Test.YtblkhjbakkiphaaColLaws
namespace Go.Proofs.Ytblkhjbakkiphaa
open Go.ChangeShapes Go.WideShapes Go.ChangeAt Go.RowKit

set_option maxHeartbeats 2000000 in
theorem walk_FnColumnOf (w : World) (A0 : Option Addr) (n0 cap0 : Nat) (zs0 : List Int) (hz0 : IsRow .u8 w A0 n0 cap0 zs0) :
    Calls Try.prog 5 #[.slice A0 n0 cap0] w fun e w' => e = .returned (.bool true) ∧ Below w.heap.size w w' := by
  obtain ⟨hr, hc⟩ := hz0.rowB
  clear hz0
  by_cases hx : n0 ≤ 1048576
  rotate_left
  · clear hr
    go_enter Try.func5, Try.ntmps5
    go_wp2_with fail
    go_ret
    exact ⟨rfl, Below.refl _ _⟩
  have D := Lib.hid (drawColumnOf_any A0 n0 cap0 w hr hc hx)
  clear hr
  go_enter Try.func5, Try.ntmps5
  go_wp2_with fail
  refine D.out.mono ?_
  rintro e w1 ⟨x, y, ⟨rfl, hx1, hy1⟩, hb⟩
  have B := Lib.hid hb; clear hb D
  unfold I64 at hx1 hy1
  cases hB : colOfB x y
  · have hL := colOfL_no hB
    have C1 := Lib.hid (fun W => columnOf_impl x y W)
    rw [hB, hL] at C1
    have C2 := Lib.hid (fun W => columnOf_spec x y W)
    rw [hB, hL] at C2
    clear hB hL
    go_wp2_with fail
    refine (C1.out _).mono ?_
    rintro e w' ⟨rfl, hw⟩
    have B := Lib.hid (below_two B.out hw); clear hw
    go_wp2_with fail
    refine (C2.out _).mono ?_
    rintro e w' ⟨rfl, hw⟩
    have B := Lib.hid (below_two B.out hw); clear hw
    go_wp2_with fail
    go_ret
    exact ⟨rfl, B.out⟩
  · obtain ⟨sh, sg⟩ := colOf_shows hB
    have hy2 := (colOfB_iff.1 hB).1
    obtain ⟨k, rfl⟩ := Int.eq_ofNat_of_zero_le (show 0 ≤ y by omega)
    rw [Int.toNat_natCast] at sh
    have C1 := Lib.hid (fun W => columnOf_impl x (k : Int) W)
    rw [hB] at C1
    have C2 := Lib.hid (fun W => columnOf_spec x (k : Int) W)
    rw [hB] at C2
    obtain ⟨s, hs⟩ : ∃ s, s = str (colOfL x (k : Int)) := ⟨_, rfl⟩
    have hbl : bl s = colOfL x (k : Int) := by rw [hs, bl_str]
    rw [← hs] at C1 C2
    rw [← hbl] at sh sg
    obtain rfl : k = s.size := by rw [← length_bl]; exact sh.len.symm
    have hcol := sh.col
    have hz := col_size hcol
    have hmax := col_max hcol
    have h0 : 0 < s.size := by omega
    have hhead := (head_half hcol (by rw [length_bl]; exact h0)).1.trans (sgn_neg hcol).symm
    rw [sg] at hhead
    have hhd : 53 ≤ s[0].toNat ↔ x < 0 := hhead
    have C3 := Lib.hid (fun W => signedOf_impl s W hmax)
    rw [hcol, sg] at C3
    have C4 := Lib.hid (fun W => columnValid_impl s W hmax)
    rw [hcol] at C4
    clear hB hs hbl sh sg hcol hhead
    by_cases hn : x < 0
    · have hd := hhd.2 hn
      clear hhd
      go_wp2_with fail
      refine (C1.out _).mono ?_
      rintro e w' ⟨rfl, hw⟩
      have B := Lib.hid (below_two B.out hw); clear hw
      go_wp2_with fail
      refine (C2.out _).mono ?_
      rintro e w' ⟨rfl, hw⟩
      have B := Lib.hid (below_two B.out hw); clear hw
      go_wp2_with fail
      refine (C3.out _).mono ?_
      rintro e w' ⟨rfl, rfl⟩
      go_wp2_with fail
      refine (C4.out _).mono ?_
      rintro e w' ⟨rfl, rfl⟩
      go_wp2_with fail
      go_ret
      exact ⟨ret_bool (by simp <;> omega), B.out⟩
    · have hd : ¬ 53 ≤ s[0].toNat := fun h => hn (hhd.1 h)
      clear hhd
      go_wp2_with fail
      refine (C1.out _).mono ?_
      rintro e w' ⟨rfl, hw⟩
      have B := Lib.hid (below_two B.out hw); clear hw
      go_wp2_with fail
      refine (C2.out _).mono ?_
      rintro e w' ⟨rfl, hw⟩
      have B := Lib.hid (below_two B.out hw); clear hw
      go_wp2_with fail
      refine (C3.out _).mono ?_
      rintro e w' ⟨rfl, rfl⟩
      go_wp2_with fail
      refine (C4.out _).mono ?_
      rintro e w' ⟨rfl, rfl⟩
      go_wp2_with fail
      go_ret
      exact ⟨ret_bool (by simp <;> omega), B.out⟩

set_option maxRecDepth 100000 in
theorem lifted_FnColumnOf (os : Os) (started : os.Started) (H : Type) (enc : TypeId × Value → H) :
    ReturnsInHanded {} Try.checked os 5 .any (Rows.fnColumnOfSpec.pre6 enc Try.prog Try.f5 Rows.fnColumnOfRow.domain false) (Rows.fnColumnOfSpec.post enc Try.prog Try.f5 false true false false) := by
  refine returnsInHanded_of_change (C := Try.checked) own started (by kernel_rfl) Try.func5
    (ChangeSpec.witness6 (enc := enc) (C := Try.checked) false ⟨#[], #[.slice none 0 0], []⟩ 8 (by kernel_rfl) (by kernel_rfl) (by kernel_rfl) (by kernel_rfl)) ?_
  intro W base args ds gs before hval0 hW hcnd _
  have hval : ∀ (j : Nat) t v, Try.f5.params[j]? = some t → args[j]? = some v → Value.okWide Try.prog W .any base t v := hval0
  have hW' := hW
  obtain ⟨p, q, hA0, hV, rfl, hfz, hnd⟩ := hW
  have hA : DataW.TrodAll enc Try.prog W 0 (fun _ => true) true Try.f5.params.toList args.toList ds p := hA0
  rw [Try.params5] at hA hval
  obtain ⟨v0, vs0, d0, ds0, p0, q0, hargs, rfl, rfl, h0, r0⟩ := trodAll_cons hA
  obtain ⟨rfl, rfl, rfl⟩ := trodAll_nil r0
  obtain rfl : args = #[v0] := by cases args; simp_all
  obtain ⟨rfl, rfl⟩ := trodVars_none hV
  obtain ⟨a0, len0, cap0, rfl⟩ := okWide_slice Try.underlying22 (hval 0 22 v0 rfl rfl)
  have k0 := h0
  have lt0 : ∀ x ∈ p0, x.block < W.heap.size := by obtain ⟨m, hm⟩ := k0; exact DataW.trod_lt m _ _ _ hm
  obtain ⟨z0, w0⟩ : ∃ zs, IsRow .u8 W a0 len0 cap0 zs := by
    obtain ⟨fuel, hf⟩ := h0
    rcases open_ints Try.underlying22 Try.underlying5 (by kernel_rfl) hf with ⟨hcs, _⟩ | ⟨x, l, c, zs, hcs, _, hl, hm, hz, _, hcell, hwz⟩
    · simp [Value.cells] at hcs
      obtain ⟨rfl, rfl, rfl⟩ := hcs
      exact ⟨[], .inl ⟨rfl, rfl, rfl, rfl⟩⟩
    · simp [Value.cells] at hcs
      obtain ⟨rfl, rfl, rfl⟩ := hcs
      exact ⟨zs, .inr ⟨_, rfl, hl, hm, by simpa using hz, hcell, hwz⟩⟩
  clear hA0 hval0
  refine (walk_FnColumnOf W a0 len0 cap0 z0 w0).mono fun e W' ⟨he, bel⟩ => ?_
  subst he
  exact ⟨_, rfl, _, _, _, [], _, [], hW', trodAll_mk1 (shut_bool Try.underlying4 _), (trodAll_cons_mk (Below.trod laidOut (by kernel_rfl) (of_decide_eq_true (by kernel_rfl)) k0 bel lt0) trodAll_mk0), rfl, bel.frame _, fun h => by cases h⟩

theorem over_FnColumnOf : Rows.fnColumnOfRow.holds Try.pinned (OpenSpec.ofChange Rows.fnColumnOfSpec) :=
  OpenClaim.holds_of_wide 5 Try.f5 rfl rfl rfl rfl rfl rfl rfl ⟨rfl, rfl, rfl, rfl, rfl⟩ rfl rfl rfl rfl rfl (by kernel_rfl) Try.func5 (by kernel_rfl)
    (of_decide_eq_true (by kernel_rfl)) (by unfold Func.isWrapper; first | (rw [if_pos (by decide +kernel)]; kernel_rfl) | (rw [if_neg (by decide +kernel)]; exact ⟨rfl, rfl⟩))
    (fun os started H enc _ => lifted_FnColumnOf os started H enc)

theorem fnColumnOf_proved : Rows.FnColumnOfSaid := over_FnColumnOf
#print axioms fnColumnOf_proved
end Go.Proofs.Ytblkhjbakkiphaa
