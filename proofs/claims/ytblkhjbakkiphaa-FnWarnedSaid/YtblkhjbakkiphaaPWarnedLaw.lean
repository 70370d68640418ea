/- The statement FnWarned: for every drawn argument the law holds. -/
import Derived.Test.YtblkhjbakkiphaaDrawCol
import Derived.Test.YtblkhjbakkiphaaColF
import Derived.Test.YtblkhjbakkiphaaColLaws
namespace Go.Proofs.Ytblkhjbakkiphaa
open Go.ChangeShapes Go.WideShapes Go.ChangeAt Go.RowKit

set_option maxHeartbeats 2000000 in
theorem walk_FnWarned (w : World) (A0 : Option Addr) (n0 cap0 : Nat) (zs0 : List Int) (hz0 : IsRow .u8 w A0 n0 cap0 zs0) :
    Calls Try.prog 4 #[.slice A0 n0 cap0] w fun e w' => e = .returned (.bool true) ∧ Below w.heap.size w w' := by
  obtain ⟨hr, hc⟩ := hz0.rowB
  clear hz0
  by_cases hx : n0 ≤ 1048576
  rotate_left
  · clear hr
    go_enter Try.func4, Try.ntmps4
    go_wp2_with fail
    go_ret
    exact ⟨rfl, Below.refl _ _⟩
  have D := Lib.hid (drawWarnedWheels_any A0 n0 cap0 w hr hc hx)
  clear hr
  go_enter Try.func4, Try.ntmps4
  go_wp2_with fail
  refine D.out.mono ?_
  rintro e w1 ⟨a, b, ⟨rfl, ha, hb1⟩, hb⟩
  have B := Lib.hid hb; clear hb D
  have hma : a.size ≤ maxLen := by unfold maxLen; omega
  have hmb : b.size ≤ maxLen := by unfold maxLen; omega
  cases hB : alikeB (bl a) (bl b)
  · have hL : warnL (bl a) (bl b) = [] := by unfold warnL; rw [hB]; rfl
    have C1 := Lib.hid (fun W => warn_impl a b W hma hmb)
    rw [hB, hL] at C1
    have C2 := Lib.hid (fun W => warn_spec a b W hma hmb)
    rw [hB, hL] at C2
    clear hB hL
    go_wp2_with fail
    refine (C1.out _).mono ?_
    rintro e w' ⟨rfl, hw⟩
    have B := Lib.hid (below_two B.out hw); clear hw
    go_wp2_with fail
    refine (C2.out _).mono ?_
    rintro e w' ⟨rfl, hw⟩
    have B := Lib.hid (below_two B.out hw); clear hw
    go_wp2_with fail
    go_ret
    exact ⟨rfl, B.out⟩
  · obtain ⟨hca, hcb, hl⟩ := alikeB_iff.1 hB
    have hL : warnL (bl a) (bl b) = warnW (bl a) (bl b) := by unfold warnL; rw [if_pos hB]
    have hT : turnL (bl a) (bl b) = turnW (bl a) (bl b) := by unfold turnL; rw [if_pos hB]
    obtain ⟨m, hm⟩ : ∃ m, m = str (warnW (bl a) (bl b)) := ⟨_, rfl⟩
    obtain ⟨c, hc⟩ : ∃ c, c = str (turnW (bl a) (bl b)) := ⟨_, rfl⟩
    have hsm : m.size = a.size := by rw [hm, size_str, warnW_length hl, length_bl]
    have hsc : c.size = a.size := by rw [hc, size_str, turnW_length hl, length_bl]
    have hsb : b.size = a.size := by rw [← length_bl, ← length_bl, hl]
    have hsz := col_size hca
    have F : Hid (∀ k (h1 : k < m.size) (h2 : k < c.size) (h3 : k < a.size), (m[k].toNat = 49 ∧ c[k].toNat < a[k].toNat ∧ c[k].toNat ≠ 57) ∨ (m[k].toNat = 48 ∧ ¬ c[k].toNat < a[k].toNat)) := by
      refine Lib.hid fun k h1 h2 h3 => ?_
      subst hm hc
      have hkb : k < b.size := by omega
      have g1 : (str (warnW (bl a) (bl b)))[k] = warnD a[k] b[k] := warnW_at a b k h3 hkb _
      have g2 : (str (turnW (bl a) (bl b)))[k] = turnD a[k] b[k] := turnW_at a b k h3 hkb _
      rw [g1, g2]
      exact warned_at (col_at hca k h3) (col_at hcb k hkb)
    have C1 := Lib.hid (fun W => warn_impl a b W hma hmb)
    rw [hB, hL, ← hm] at C1
    have C2 := Lib.hid (fun W => warn_spec a b W hma hmb)
    rw [hB, hL, ← hm] at C2
    have C3 := Lib.hid (fun W => turn_impl a b W hma hmb)
    rw [hB, hT, ← hc] at C3
    have hmm : m.size ≤ 12 := by omega
    have hcm : c.size ≤ 12 := by omega
    have SM := Lib.hid hsm; have SC := Lib.hid hsc
    clear hB hL hT hm hc hca hcb hl hsm hsc hsb
    go_wp2_with fail
    refine (C1.out _).mono ?_
    rintro e w' ⟨rfl, hw⟩
    have B := Lib.hid (below_two B.out hw); clear hw
    go_wp2_with fail
    refine (C2.out _).mono ?_
    rintro e w' ⟨rfl, hw⟩
    have B := Lib.hid (below_two B.out hw); clear hw
    go_wp2_with fail
    refine (C3.out _).mono ?_
    rintro e w' ⟨rfl, hw⟩
    have B := Lib.hid (below_two B.out hw); clear hw
    clear C1 C2 C3
    go_wp2_with fail
    go_loopw [11] (fun i wr => ∃ k : Nat, k ≤ c.size ∧ i = .int .i64 (k : Int) ∧ Hid (Below w.heap.size w wr)) (fun i _ => c.size - (intOf i).toNat)
    case atStart => exact ⟨0, Nat.zero_le _, rfl, B⟩
    case round =>
      obtain ⟨k, hk, rfl, B⟩ := hrel
      by_cases hlt : k < c.size
      · have h1 : k < m.size := by rw [SM.out, ← SC.out]; exact hlt
        have h3 : k < a.size := by rw [← SC.out]; exact hlt
        rcases F.out k h1 hlt h3 with ⟨f1, f2, f3⟩ | ⟨f1, f2⟩
        · have t1 : ((m[k].toNat : Int) == 49) = true := by simp [f1]
          have t2 : decide (c[k].toNat < a[k].toNat) = true := decide_eq_true f2
          have t3 : ((c[k].toNat : Int) == 57) = false := by simp; omega
          clear f1 f2 f3
          go_wp2_with fail
          go_quiet (fail)
          go_wp2_with fail
          go_roundw
          case rel => exact ⟨k + 1, by omega, by go_num, Lib.hid (below_drewN B.out _)⟩
          case measure => simp [intOf] <;> omega
        · have t1 : ((m[k].toNat : Int) == 49) = false := by simp [f1]
          have t2 : decide (c[k].toNat < a[k].toNat) = false := decide_eq_false f2
          clear f1 f2
          go_wp2_with fail
          go_quiet (fail)
          go_wp2_with fail
          go_roundw
          case rel => exact ⟨k + 1, by omega, by go_num, Lib.hid (below_drewN B.out _)⟩
          case measure => simp [intOf] <;> omega
      · have hsz2 : ((m.size : Int) == (a.size : Int)) = true := by rw [SM.out]; simp
        go_wp2_with fail
        go_ret
        exact ⟨rfl, B.out⟩

set_option maxRecDepth 100000 in
theorem lifted_FnWarned (os : Os) (started : os.Started) (H : Type) (enc : TypeId × Value → H) :
    ReturnsInHanded {} Try.checked os 4 .any (Rows.fnWarnedSpec.pre6 enc Try.prog Try.f4 Rows.fnWarnedRow.domain false) (Rows.fnWarnedSpec.post enc Try.prog Try.f4 false true false false) := by
  refine returnsInHanded_of_change (C := Try.checked) own started (by kernel_rfl) Try.func4
    (ChangeSpec.witness6 (enc := enc) (C := Try.checked) false ⟨#[], #[.slice none 0 0], []⟩ 8 (by kernel_rfl) (by kernel_rfl) (by kernel_rfl) (by kernel_rfl)) ?_
  intro W base args ds gs before hval0 hW hcnd _
  have hval : ∀ (j : Nat) t v, Try.f4.params[j]? = some t → args[j]? = some v → Value.okWide Try.prog W .any base t v := hval0
  have hW' := hW
  obtain ⟨p, q, hA0, hV, rfl, hfz, hnd⟩ := hW
  have hA : DataW.TrodAll enc Try.prog W 0 (fun _ => true) true Try.f4.params.toList args.toList ds p := hA0
  rw [Try.params4] at hA hval
  obtain ⟨v0, vs0, d0, ds0, p0, q0, hargs, rfl, rfl, h0, r0⟩ := trodAll_cons hA
  obtain ⟨rfl, rfl, rfl⟩ := trodAll_nil r0
  obtain rfl : args = #[v0] := by cases args; simp_all
  obtain ⟨rfl, rfl⟩ := trodVars_none hV
  obtain ⟨a0, len0, cap0, rfl⟩ := okWide_slice Try.underlying22 (hval 0 22 v0 rfl rfl)
  have k0 := h0
  have lt0 : ∀ x ∈ p0, x.block < W.heap.size := by obtain ⟨m, hm⟩ := k0; exact DataW.trod_lt m _ _ _ hm
  obtain ⟨z0, w0⟩ : ∃ zs, IsRow .u8 W a0 len0 cap0 zs := by
    obtain ⟨fuel, hf⟩ := h0
    rcases open_ints Try.underlying22 Try.underlying5 (by kernel_rfl) hf with ⟨hcs, _⟩ | ⟨x, l, c, zs, hcs, _, hl, hm, hz, _, hcell, hwz⟩
    · simp [Value.cells] at hcs
      obtain ⟨rfl, rfl, rfl⟩ := hcs
      exact ⟨[], .inl ⟨rfl, rfl, rfl, rfl⟩⟩
    · simp [Value.cells] at hcs
      obtain ⟨rfl, rfl, rfl⟩ := hcs
      exact ⟨zs, .inr ⟨_, rfl, hl, hm, by simpa using hz, hcell, hwz⟩⟩
  clear hA0 hval0
  refine (walk_FnWarned W a0 len0 cap0 z0 w0).mono fun e W' ⟨he, bel⟩ => ?_
  subst he
  exact ⟨_, rfl, _, _, _, [], _, [], hW', trodAll_mk1 (shut_bool Try.underlying4 _), (trodAll_cons_mk (Below.trod laidOut (by kernel_rfl) (of_decide_eq_true (by kernel_rfl)) k0 bel lt0) trodAll_mk0), rfl, bel.frame _, fun h => by cases h⟩

theorem over_FnWarned : Rows.fnWarnedRow.holds Try.pinned (OpenSpec.ofChange Rows.fnWarnedSpec) :=
  OpenClaim.holds_of_wide 4 Try.f4 rfl rfl rfl rfl rfl rfl rfl ⟨rfl, rfl, rfl, rfl, rfl⟩ rfl rfl rfl rfl rfl (by kernel_rfl) Try.func4 (by kernel_rfl)
    (of_decide_eq_true (by kernel_rfl)) (by unfold Func.isWrapper; first | (rw [if_pos (by decide +kernel)]; kernel_rfl) | (rw [if_neg (by decide +kernel)]; exact ⟨rfl, rfl⟩))
    (fun os started H enc _ => lifted_FnWarned os started H enc)

theorem fnWarned_proved : Rows.FnWarnedSaid := over_FnWarned
#print axioms fnWarned_proved
end Go.Proofs.Ytblkhjbakkiphaa
