/- The statement FnCarryOnce: for every drawn argument the law holds. -/
import Derived.Test.YtghgienpkffcbaaDrawCarry
import Derived.Test.YtghgienpkffcbaaCarryWalk
import Derived.Test.YtghgienpkffcbaaColD
namespace Go.Proofs.Ytghgienpkffcbaa
open Go.ChangeShapes Go.WideShapes Go.ChangeAt Go.RowKit

set_option maxHeartbeats 2000000 in
theorem walk_FnCarryOnce (w : World) (A0 : Option Addr) (n0 cap0 : Nat) (zs0 : List Int) (hz0 : IsRow .u8 w A0 n0 cap0 zs0) :
    Calls Try.prog 6 #[.slice A0 n0 cap0] w fun e w' => e = .returned (.bool true) ∧ Below w.heap.size w w' := by
  obtain ⟨hr, hc⟩ := hz0.rowB
  clear hz0
  by_cases hx : n0 ≤ 1048576
  rotate_left
  · clear hr
    go_enter Try.func6, Try.ntmps6
    go_wp2_with fail
    go_ret
    exact ⟨rfl, Below.refl _ _⟩
  have D := Lib.hid (drawCarryOnce_any A0 n0 cap0 w hr hc hx)
  clear hr
  go_enter Try.func6, Try.ntmps6
  go_wp2_with fail
  refine D.out.mono ?_
  rintro e w1 ⟨c, m, ⟨rfl, hc1, hm1⟩, hb⟩
  have B := Lib.hid hb; clear hb D
  have hmc : c.size ≤ maxLen := by unfold maxLen; omega
  have hmm : m.size ≤ maxLen := by unfold maxLen; omega
  cases hM : marksB (bl c) (bl m)
  · obtain ⟨e1, e2⟩ := once_no hM
    have C1 := Lib.hid (fun W => once_impl c m W hmc hmm)
    rw [hM, e1, e2] at C1
    have C2 := Lib.hid (fun W => once_spec c m W hmc hmm)
    rw [hM, e1, e2] at C2
    clear hM e1 e2
    go_wp2_with fail
    refine (C1.out _).mono ?_
    rintro e w' ⟨rfl, hw⟩
    have B := Lib.hid (below_two B.out hw); clear hw
    go_wp2_with fail
    refine (C2.out _).mono ?_
    rintro e w' ⟨rfl, hw⟩
    have B := Lib.hid (below_two B.out hw); clear hw
    go_wp2_with fail
    go_ret
    exact ⟨rfl, B.out⟩
  · obtain ⟨e1, e2⟩ := once_yes hM
    have hl := marks_len hM
    have hsl := step_len hM
    simp only [length_bl] at hl hsl
    obtain ⟨d, hd⟩ : ∃ d, d = str (stepC (bl c) (bl m)) := ⟨_, rfl⟩
    obtain ⟨k, hk⟩ : ∃ k, k = str (stepM (bl c) (bl m)) := ⟨_, rfl⟩
    have hbd : bl d = stepC (bl c) (bl m) := by rw [hd, bl_str]
    have hbk : bl k = stepM (bl c) (bl m) := by rw [hk, bl_str]
    have hsd : d.size = c.size := by rw [hd, size_str, hsl.1]
    have hsk : k.size = c.size := by rw [hk, size_str, hsl.2]
    have hmd : d.size ≤ maxLen := by rw [hsd]; exact hmc
    have hmk : k.size ≤ maxLen := by rw [hsk]; exact hmc
    have hM2 : marksB (bl d) (bl k) = true := by rw [hbd, hbk]; exact step_marks hM
    have hA : aheadL (bl d) (bl k) = aheadL (bl c) (bl m) := by rw [hbd, hbk]; exact ahead_step hM
    obtain ⟨j, hj⟩ : ∃ j, j + 1 = c.size := ⟨c.size - 1, by omega⟩
    have hjc : j < c.size := by omega
    have hjd : j < d.size := by omega
    have hjk : j < k.size := by omega
    have hlast := once_last hM hj hjc (by rw [hsl.1]; exact hjc) (by rw [hsl.2]; exact hjc)
    have g1 : d[j] = c[j] := by
      rw [← hlast.1]
      subst hd
      rfl
    have g2 : k[j] = 48 := by
      rw [← hlast.2]
      subst hk
      rfl
    have i1 : (c.size : Int) - 1 = (j : Int) := by omega
    have i2 : (d.size : Int) - 1 = (j : Int) := by omega
    have i3 : (k.size : Int) - 1 = (j : Int) := by omega
    have t1 : ((k[j].toNat : Int) == 48) = true := by rw [g2]; rfl
    have hcz : c.size ≤ 12 := hl.2.2.2
    have hdz : d.size ≤ 12 := by omega
    have hkz : k.size ≤ 12 := by omega
    have C1 := Lib.hid (fun W => once_impl c m W hmc hmm)
    rw [hM, e1, e2, ← hd, ← hk] at C1
    have C2 := Lib.hid (fun W => once_spec c m W hmc hmm)
    rw [hM, e1, e2, ← hd, ← hk] at C2
    have C3 := Lib.hid (fun W => ahead_impl c m W hmc hmm)
    rw [hM] at C3
    have C4 := Lib.hid (fun W => ahead_impl d k W hmd hmk)
    rw [hM2, hA] at C4
    generalize str (aheadL (bl c) (bl m)) = s at *
    have G1 := Lib.hid g1
    have I1 := Lib.hid i1; have I2 := Lib.hid i2; have I3 := Lib.hid i3
    clear hM e1 e2 hl hsl hd hk hbd hbk hsd hsk hM2 hA hj hlast g2 i1 i2 i3 g1
    go_wp2_with fail
    refine (C1.out _).mono ?_
    rintro e w' ⟨rfl, hw⟩
    have B := Lib.hid (below_two B.out hw); clear hw
    go_wp2_with fail
    refine (C2.out _).mono ?_
    rintro e w' ⟨rfl, hw⟩
    have B := Lib.hid (below_two B.out hw); clear hw
    go_wp2_with fail
    refine (C3.out _).mono ?_
    rintro e w' ⟨rfl, hw⟩
    have B := Lib.hid (below_two B.out hw); clear hw
    go_wp2_with fail
    refine (C4.out _).mono ?_
    rintro e w' ⟨rfl, hw⟩
    have B := Lib.hid (below_two B.out hw); clear hw
    have g1 := G1.out
    have i1 := I1.out; have i2 := I2.out; have i3 := I3.out
    clear C1 C2 C3 C4
    by_cases h2 : c.size < 2
    · have h2' : decide ((c.size : Int) < 2) = true := decide_eq_true (by omega)
      go_wp2_with fail
      go_quiet (fail)
      go_wp2_with fail
      go_ret
      exact ⟨rfl, below_drewN B.out _⟩
    · have h2' : decide ((c.size : Int) < 2) = false := decide_eq_false (by omega)
      go_wp2_with fail
      go_quiet (fail)
      go_wp2_with fail
      go_ret
      exact ⟨rfl, below_drewN B.out _⟩

set_option maxRecDepth 100000 in
theorem lifted_FnCarryOnce (os : Os) (started : os.Started) (H : Type) (enc : TypeId × Value → H) :
    ReturnsInHanded {} Try.checked os 6 .any (Rows.fnCarryOnceSpec.pre6 enc Try.prog Try.f6 Rows.fnCarryOnceRow.domain false) (Rows.fnCarryOnceSpec.post enc Try.prog Try.f6 false true false false) := by
  refine returnsInHanded_of_change (C := Try.checked) own started (by kernel_rfl) Try.func6
    (ChangeSpec.witness6 (enc := enc) (C := Try.checked) false ⟨#[], #[.slice none 0 0], []⟩ 8 (by kernel_rfl) (by kernel_rfl) (by kernel_rfl) (by kernel_rfl)) ?_
  intro W base args ds gs before hval0 hW hcnd _
  have hval : ∀ (j : Nat) t v, Try.f6.params[j]? = some t → args[j]? = some v → Value.okWide Try.prog W .any base t v := hval0
  have hW' := hW
  obtain ⟨p, q, hA0, hV, rfl, hfz, hnd⟩ := hW
  have hA : DataW.TrodAll enc Try.prog W 0 (fun _ => true) true Try.f6.params.toList args.toList ds p := hA0
  rw [Try.params6] at hA hval
  obtain ⟨v0, vs0, d0, ds0, p0, q0, hargs, rfl, rfl, h0, r0⟩ := trodAll_cons hA
  obtain ⟨rfl, rfl, rfl⟩ := trodAll_nil r0
  obtain rfl : args = #[v0] := by cases args; simp_all
  obtain ⟨rfl, rfl⟩ := trodVars_none hV
  obtain ⟨a0, len0, cap0, rfl⟩ := okWide_slice Try.underlying28 (hval 0 28 v0 rfl rfl)
  have k0 := h0
  have lt0 : ∀ x ∈ p0, x.block < W.heap.size := by obtain ⟨m, hm⟩ := k0; exact DataW.trod_lt m _ _ _ hm
  obtain ⟨z0, w0⟩ : ∃ zs, IsRow .u8 W a0 len0 cap0 zs := by
    obtain ⟨fuel, hf⟩ := h0
    rcases open_ints Try.underlying28 Try.underlying5 (by kernel_rfl) hf with ⟨hcs, _⟩ | ⟨x, l, c, zs, hcs, _, hl, hm, hz, _, hcell, hwz⟩
    · simp [Value.cells] at hcs
      obtain ⟨rfl, rfl, rfl⟩ := hcs
      exact ⟨[], .inl ⟨rfl, rfl, rfl, rfl⟩⟩
    · simp [Value.cells] at hcs
      obtain ⟨rfl, rfl, rfl⟩ := hcs
      exact ⟨zs, .inr ⟨_, rfl, hl, hm, by simpa using hz, hcell, hwz⟩⟩
  clear hA0 hval0
  refine (walk_FnCarryOnce W a0 len0 cap0 z0 w0).mono fun e W' ⟨he, bel⟩ => ?_
  subst he
  exact ⟨_, rfl, _, _, _, [], _, [], hW', trodAll_mk1 (shut_bool Try.underlying4 _), (trodAll_cons_mk (Below.trod laidOut (by kernel_rfl) (of_decide_eq_true (by kernel_rfl)) k0 bel lt0) trodAll_mk0), rfl, bel.frame _, fun h => by cases h⟩

theorem over_FnCarryOnce : Rows.fnCarryOnceRow.holds Try.pinned (OpenSpec.ofChange Rows.fnCarryOnceSpec) :=
  OpenClaim.holds_of_wide 6 Try.f6 rfl rfl rfl rfl rfl rfl rfl ⟨rfl, rfl, rfl, rfl, rfl⟩ rfl rfl rfl rfl rfl (by kernel_rfl) Try.func6 (by kernel_rfl)
    (of_decide_eq_true (by kernel_rfl)) (by unfold Func.isWrapper; first | (rw [if_pos (by decide +kernel)]; kernel_rfl) | (rw [if_neg (by decide +kernel)]; exact ⟨rfl, rfl⟩))
    (fun os started H enc _ => lifted_FnCarryOnce os started H enc)

theorem fnCarryOnce_proved : Rows.FnCarryOnceSaid := over_FnCarryOnce
#print axioms fnCarryOnce_proved
end Go.Proofs.Ytghgienpkffcbaa
