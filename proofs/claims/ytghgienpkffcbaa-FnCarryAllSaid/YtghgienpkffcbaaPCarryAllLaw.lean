/- The statement FnCarryAll: for every drawn argument the law holds. -/
import Derived.Test.YtghgienpkffcbaaDrawCarry
import Derived.Test.YtghgienpkffcbaaCarryWalk
import Derived.Test.YtghgienpkffcbaaColD
namespace Go.Proofs.Ytghgienpkffcbaa
open Go.ChangeShapes Go.WideShapes Go.ChangeAt Go.RowKit

theorem stop_zero {f : Nat} {c m : List UInt8} (h : lastOne m ≤ f) (h0 : stopF f c m = 0) : lastOne m = 0 := by
  cases f with
  | zero => omega
  | succ f =>
    apply Classical.byContradiction
    intro hz
    rw [(stop_step hz).1] at h0
    omega

set_option maxHeartbeats 2000000 in
theorem walk_FnCarryAll (w : World) (A0 : Option Addr) (n0 cap0 : Nat) (zs0 : List Int) (hz0 : IsRow .u8 w A0 n0 cap0 zs0) :
    Calls Try.prog 7 #[.slice A0 n0 cap0] w fun e w' => e = .returned (.bool true) ∧ Below w.heap.size w w' := by
  obtain ⟨hr, hc⟩ := hz0.rowB
  clear hz0
  by_cases hx : n0 ≤ 1048576
  rotate_left
  · clear hr
    go_enter Try.func7, Try.ntmps7
    go_wp2_with fail
    go_ret
    exact ⟨rfl, Below.refl _ _⟩
  have D := Lib.hid (drawCarryAll_any A0 n0 cap0 w hr hc hx)
  clear hr
  go_enter Try.func7, Try.ntmps7
  go_wp2_with fail
  refine D.out.mono ?_
  rintro e w1 ⟨c, m, ⟨rfl, hc1, hm1⟩, hb⟩
  have B := Lib.hid hb; clear hb D
  have hmc : c.size ≤ maxLen := by unfold maxLen; omega
  have hmm : m.size ≤ maxLen := by unfold maxLen; omega
  cases hM : marksB (bl c) (bl m)
  · obtain ⟨e1, e2⟩ := all_no hM
    have C1 := Lib.hid (fun W => all_impl c m W hmc hmm)
    rw [hM, e1, e2] at C1
    have C2 := Lib.hid (fun W => all_spec c m W hmc hmm)
    rw [hM, e1, e2] at C2
    clear hM e1 e2
    go_wp2_with fail
    refine (C1.out _).mono ?_
    rintro e w' ⟨rfl, hw⟩
    have B := Lib.hid (below_two B.out hw); clear hw
    go_wp2_with fail
    refine (C2.out _).mono ?_
    rintro e w' ⟨rfl, hw⟩
    have B := Lib.hid (below_two B.out hw); clear hw
    go_wp2_with fail
    go_ret
    exact ⟨rfl, B.out⟩
  · obtain ⟨e1, e2⟩ := all_yes hM
    have hl := marks_len hM
    simp only [length_bl] at hl
    have hn := stop_le (bl c).length (bl c) (bl m)
    obtain ⟨N, hN⟩ : ∃ N, N = stopF (bl c).length (bl c) (bl m) := ⟨_, rfl⟩
    obtain ⟨s, hs⟩ : ∃ s, s = str (aheadL (bl c) (bl m)) := ⟨_, rfl⟩
    rw [← hN] at e1 hn
    rw [length_bl] at hn
    have HE : Hid (bl s = endF (bl c).length (bl c) (bl m)) := Lib.hid (by rw [hs, bl_str, e2])
    have hcz : c.size ≤ 12 := hl.2.2.2
    have ST : Hid (∀ W, Below w.heap.size w W → Alling w (bl c) (bl m) (.string c) (.string m) (.int .i64 0) W) := Lib.hid fun W hW => ⟨c, m, 0, (bl c).length, rfl, rfl, rfl, Lib.hid hM, Lib.hid (by have := lastOne_le (bl m); simp only [length_bl] at this ⊢; omega), by omega, Lib.hid (Nat.zero_add _), Lib.hid rfl, Lib.hid hW⟩
    have HN := Lib.hid hN
    have C1 := Lib.hid (fun W => all_impl c m W hmc hmm)
    rw [hM, e1, ← hs] at C1
    have C2 := Lib.hid (fun W => all_spec c m W hmc hmm)
    rw [hM, e1, ← hs] at C2
    have C3 := Lib.hid (fun W => ahead_impl c m W hmc hmm)
    rw [hM, ← hs] at C3
    clear hM e1 e2 hl hN hs
    go_wp2_with fail
    refine (C1.out _).mono ?_
    rintro e w' ⟨rfl, hw⟩
    have B := Lib.hid (below_two B.out hw); clear hw
    go_wp2_with fail
    refine (C2.out _).mono ?_
    rintro e w' ⟨rfl, hw⟩
    have B := Lib.hid (below_two B.out hw); clear hw
    clear C1 C2
    go_wp2_with fail
    go_loopw [11, 12, 13] (fun cv mv kv wr => Alling w (bl c) (bl m) cv mv kv wr) (fun _ _ kv _ => N - (intOf kv).toNat)
    case atStart => exact ST.out _ B.out
    case round =>
      obtain ⟨cs, ms, k, f, rfl, rfl, rfl, H, H0, hk, HK, HF, HV⟩ := hrel
      have hl := marks_len H.out
      simp only [length_bl] at hl
      have hv := val_marks (bl ms) (marksB_iff.1 H.out).2.2
      have hmc2 : cs.size ≤ maxLen := by unfold maxLen; omega
      have hmm2 : ms.size ≤ maxLen := by unfold maxLen; omega
      have hcm := (marks_col H.out).1
      have V := Lib.hid (fun W => valueOf_impl ms W hmm2)
      rw [valOf_yes hcm] at V
      by_cases hlt : k < N
      · have hz : lastOne (bl ms) ≠ 0 := by
          intro hz
          have := HK.out
          rw [(stop_done hz).1, ← HN.out] at this
          omega
        obtain ⟨f', rfl, s1, s2, s3, s4⟩ := alling_step H.out H0.out HK.out HF.out hz
        have C4 := Lib.hid (fun W => once_impl cs ms W hmc2 hmm2)
        rw [(once_yes H.out).1, (once_yes H.out).2, H.out] at C4
        have hv0 : (val (bl ms) == 0) = false := by simp; exact fun e => hz (hv.1.1 e)
        have NX : Hid (∀ w2, Below w.heap.size w w2 → Alling w (bl c) (bl m) (.string (str (stepC (bl cs) (bl ms)))) (.string (str (stepM (bl cs) (bl ms)))) (.int .i64 ((k : Int) + 1)) w2) :=
          Lib.hid fun w2 hb => ⟨_, _, k + 1, f', rfl, rfl, rfl, by rw [bl_str, bl_str]; exact Lib.hid s1, by rw [bl_str]; exact Lib.hid s2, by omega, by rw [bl_str, bl_str]; exact Lib.hid s3, by rw [bl_str, bl_str]; exact Lib.hid s4, Lib.hid hb⟩
        generalize val (bl ms) = v at *
        generalize str (stepC (bl cs) (bl ms)) = cs2 at *
        generalize str (stepM (bl cs) (bl ms)) = ms2 at *
        clear s1 s2 s3 s4 hz hl hv hcm
        go_wp2_with fail
        refine (V.out _).mono ?_
        rintro e w' ⟨rfl, rfl⟩
        go_wp2_with fail
        refine (C4.out _).mono ?_
        rintro e w2 ⟨rfl, hw2⟩
        have W2 := Lib.hid (below_two HV.out hw2); clear hw2
        go_wp2_with fail
        go_roundw
        case rel => exact NX.out _ W2.out
        case measure => simp [intOf] <;> omega
      · have hz : lastOne (bl ms) = 0 := stop_zero (c := bl cs) H0.out (by have := HK.out; rw [← HN.out] at this; omega)
        have hkN : k = N := by
          have := HK.out
          rw [(stop_done hz).1, ← HN.out] at this
          omega
        subst hkN
        obtain rfl : cs = s := bl_inj (by rw [HE.out, ← HF.out, (stop_done hz).2])
        rw [hv.1.2 hz] at V
        have B := Lib.hid HV.out
        clear hz hl hv hcm
        go_wp2_with fail
        refine (C3.out _).mono ?_
        rintro e w2 ⟨rfl, hw2⟩
        have B := Lib.hid (below_two B.out hw2); clear hw2
        go_wp2_with fail
        refine (V.out _).mono ?_
        rintro e w' ⟨rfl, rfl⟩
        go_wp2_with fail
        go_ret
        exact ⟨rfl, B.out⟩

set_option maxRecDepth 100000 in
theorem lifted_FnCarryAll (os : Os) (started : os.Started) (H : Type) (enc : TypeId × Value → H) :
    ReturnsInHanded {} Try.checked os 7 .any (Rows.fnCarryAllSpec.pre6 enc Try.prog Try.f7 Rows.fnCarryAllRow.domain false) (Rows.fnCarryAllSpec.post enc Try.prog Try.f7 false true false false) := by
  refine returnsInHanded_of_change (C := Try.checked) own started (by kernel_rfl) Try.func7
    (ChangeSpec.witness6 (enc := enc) (C := Try.checked) false ⟨#[], #[.slice none 0 0], []⟩ 8 (by kernel_rfl) (by kernel_rfl) (by kernel_rfl) (by kernel_rfl)) ?_
  intro W base args ds gs before hval0 hW hcnd _
  have hval : ∀ (j : Nat) t v, Try.f7.params[j]? = some t → args[j]? = some v → Value.okWide Try.prog W .any base t v := hval0
  have hW' := hW
  obtain ⟨p, q, hA0, hV, rfl, hfz, hnd⟩ := hW
  have hA : DataW.TrodAll enc Try.prog W 0 (fun _ => true) true Try.f7.params.toList args.toList ds p := hA0
  rw [Try.params7] at hA hval
  obtain ⟨v0, vs0, d0, ds0, p0, q0, hargs, rfl, rfl, h0, r0⟩ := trodAll_cons hA
  obtain ⟨rfl, rfl, rfl⟩ := trodAll_nil r0
  obtain rfl : args = #[v0] := by cases args; simp_all
  obtain ⟨rfl, rfl⟩ := trodVars_none hV
  obtain ⟨a0, len0, cap0, rfl⟩ := okWide_slice Try.underlying28 (hval 0 28 v0 rfl rfl)
  have k0 := h0
  have lt0 : ∀ x ∈ p0, x.block < W.heap.size := by obtain ⟨m, hm⟩ := k0; exact DataW.trod_lt m _ _ _ hm
  obtain ⟨z0, w0⟩ : ∃ zs, IsRow .u8 W a0 len0 cap0 zs := by
    obtain ⟨fuel, hf⟩ := h0
    rcases open_ints Try.underlying28 Try.underlying5 (by kernel_rfl) hf with ⟨hcs, _⟩ | ⟨x, l, c, zs, hcs, _, hl, hm, hz, _, hcell, hwz⟩
    · simp [Value.cells] at hcs
      obtain ⟨rfl, rfl, rfl⟩ := hcs
      exact ⟨[], .inl ⟨rfl, rfl, rfl, rfl⟩⟩
    · simp [Value.cells] at hcs
      obtain ⟨rfl, rfl, rfl⟩ := hcs
      exact ⟨zs, .inr ⟨_, rfl, hl, hm, by simpa using hz, hcell, hwz⟩⟩
  clear hA0 hval0
  refine (walk_FnCarryAll W a0 len0 cap0 z0 w0).mono fun e W' ⟨he, bel⟩ => ?_
  subst he
  exact ⟨_, rfl, _, _, _, [], _, [], hW', trodAll_mk1 (shut_bool Try.underlying4 _), (trodAll_cons_mk (Below.trod laidOut (by kernel_rfl) (of_decide_eq_true (by kernel_rfl)) k0 bel lt0) trodAll_mk0), rfl, bel.frame _, fun h => by cases h⟩

theorem over_FnCarryAll : Rows.fnCarryAllRow.holds Try.pinned (OpenSpec.ofChange Rows.fnCarryAllSpec) :=
  OpenClaim.holds_of_wide 7 Try.f7 rfl rfl rfl rfl rfl rfl rfl ⟨rfl, rfl, rfl, rfl, rfl⟩ rfl rfl rfl rfl rfl (by kernel_rfl) Try.func7 (by kernel_rfl)
    (of_decide_eq_true (by kernel_rfl)) (by unfold Func.isWrapper; first | (rw [if_pos (by decide +kernel)]; kernel_rfl) | (rw [if_neg (by decide +kernel)]; exact ⟨rfl, rfl⟩))
    (fun os started H enc _ => lifted_FnCarryAll os started H enc)

theorem fnCarryAll_proved : Rows.FnCarryAllSaid := over_FnCarryAll
#print axioms fnCarryAll_proved
end Go.Proofs.Ytghgienpkffcbaa
