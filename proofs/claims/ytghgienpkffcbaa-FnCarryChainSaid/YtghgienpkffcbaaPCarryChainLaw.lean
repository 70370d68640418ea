/- The statement FnCarryChain: for every drawn argument the law holds. -/
import Derived.Test.YtghgienpkffcbaaDrawCol
import Derived.Test.YtghgienpkffcbaaCarryWalk
import Derived.Test.YtghgienpkffcbaaColD
namespace Go.Proofs.Ytghgienpkffcbaa
open Go.ChangeShapes Go.WideShapes Go.ChangeAt Go.RowKit

theorem run_zero (c : List UInt8) : run c 0 = 0 := rfl
theorem run_nine {c : List UInt8} {i : Nat} (h : (gd c i).toNat = 57) : run c (i + 1) = run c i + 1 := if_pos h
theorem run_else {c : List UInt8} {i : Nat} (h : (gd c i).toNat ≠ 57) : run c (i + 1) = 0 := if_neg h
theorem long_yes {c m : List UInt8} {i : Nat} (h : (gd m i).toNat = 49) : longF c m (i + 1) = max (longF c m i) (1 + run c i) := by rw [longF, term, if_pos h]
theorem long_no {c m : List UInt8} {i : Nat} (h : (gd m i).toNat ≠ 49) : longF c m (i + 1) = longF c m i := by rw [longF, term, if_neg h]; exact Nat.max_zero _
theorem times_long {a b : List UInt8} (h : alikeB a b = true) : timesN a b = (longF (turnW a b) (warnW a b) a.length : Nat) := by
  have hm := pair_marks h
  have hl := (alikeB_iff.1 h).2.2
  have hc : (turnW a b).length = a.length := by simp [turnW, hl]
  have hw := lastOne_le (warnW a b)
  have hk := marks_len hm
  rw [times_yes h, (all_yes hm).1, stop_long _ _ _ hm (fresh_pair h) (by omega), hc]

set_option maxHeartbeats 2000000 in
theorem walk_FnCarryChain (w : World) (A0 : Option Addr) (n0 cap0 : Nat) (zs0 : List Int) (hz0 : IsRow .u8 w A0 n0 cap0 zs0) :
    Calls Try.prog 8 #[.slice A0 n0 cap0] w fun e w' => e = .returned (.bool true) ∧ Below w.heap.size w w' := by
  obtain ⟨hr, hc⟩ := hz0.rowB
  clear hz0
  by_cases hx : n0 ≤ 1048576
  rotate_left
  · clear hr
    go_enter Try.func8, Try.ntmps8
    go_wp2_with fail
    go_ret
    exact ⟨rfl, Below.refl _ _⟩
  have D := Lib.hid (drawCarryTimes_any A0 n0 cap0 w hr hc hx)
  clear hr
  go_enter Try.func8, Try.ntmps8
  go_wp2_with fail
  refine D.out.mono ?_
  rintro e w1 ⟨a, b, ⟨rfl, ha, hb1⟩, hb⟩
  have B := Lib.hid hb; clear hb D
  have hma : a.size ≤ maxLen := by unfold maxLen; omega
  have hmb : b.size ≤ maxLen := by unfold maxLen; omega
  cases hB : alikeB (bl a) (bl b)
  · have hL := times_no hB
    have C1 := Lib.hid (fun W => times_impl a b W hma hmb)
    rw [hL] at C1
    have C2 := Lib.hid (fun W => times_spec a b W hma hmb)
    rw [hL] at C2
    clear hB hL
    go_wp2_with fail
    refine (C1.out _).mono ?_
    rintro e w' ⟨rfl, hw⟩
    have B := Lib.hid (below_two B.out hw); clear hw
    go_wp2_with fail
    refine (C2.out _).mono ?_
    rintro e w' ⟨rfl, hw⟩
    have B := Lib.hid (below_two B.out hw); clear hw
    go_wp2_with fail
    refine (C2.out _).mono ?_
    rintro e w' ⟨rfl, hw⟩
    have B := Lib.hid (below_two B.out hw); clear hw
    go_wp2_with fail
    go_ret
    exact ⟨rfl, B.out⟩
  · obtain ⟨hca, hcb, hl⟩ := alikeB_iff.1 hB
    have hza := col_size hca
    have hL : warnL (bl a) (bl b) = warnW (bl a) (bl b) := by unfold warnL; rw [if_pos hB]
    have hT : turnL (bl a) (bl b) = turnW (bl a) (bl b) := by unfold turnL; rw [if_pos hB]
    obtain ⟨m, hm⟩ : ∃ m, m = str (warnW (bl a) (bl b)) := ⟨_, rfl⟩
    obtain ⟨c, hc⟩ : ∃ c, c = str (turnW (bl a) (bl b)) := ⟨_, rfl⟩
    have hsm : m.size = a.size := by rw [hm, size_str, warnW_length hl, length_bl]
    have hsc : c.size = a.size := by rw [hc, size_str, turnW_length hl, length_bl]
    have hmm : m.size ≤ maxLen := by rw [hsm]; exact hma
    have hmc : c.size ≤ maxLen := by rw [hsc]; exact hma
    have hbm : bl m = warnW (bl a) (bl b) := by rw [hm, bl_str]
    have hbc : bl c = turnW (bl a) (bl b) := by rw [hc, bl_str]
    have hM : marksB (bl c) (bl m) = true := by rw [hbm, hbc]; exact pair_marks hB
    have hN := times_long hB
    rw [← hbm, ← hbc, length_bl, ← hsc] at hN
    have hcol := (marksB_iff.1 hM).1
    have hmk : Hid (∀ k (h : k < m.size), m[k].toNat = 48 ∨ m[k].toNat = 49) := Lib.hid fun k h => (marksB_iff.1 hM).2.2 _ (mem_at (bl_at m k h))
    have hgm : Hid (∀ k (h : k < m.size), gd (bl m) k = m[k]) := Lib.hid fun k h => by rw [gd_at (by rw [length_bl]; exact h)]; rfl
    have hgc : Hid (∀ k (h : k < c.size), gd (bl c) k = c[k]) := Lib.hid fun k h => by rw [gd_at (by rw [length_bl]; exact h)]; rfl
    have hcz : c.size ≤ 12 := by omega
    have SM : Hid (m.size = c.size) := Lib.hid (by rw [hsm, hsc])
    have LB := Lib.hid (fun i => long_le (bl c) (bl m) i)
    have RB := Lib.hid (fun i => run_le (bl c) i)
    have C1 := Lib.hid (fun W => times_impl a b W hma hmb)
    rw [hN] at C1
    have C2 := Lib.hid (fun W => times_spec a b W hma hmb)
    rw [hN] at C2
    have C3 := Lib.hid (fun W => turn_impl a b W hma hmb)
    rw [hB, hT, ← hc] at C3
    have C4 := Lib.hid (fun W => warn_impl a b W hma hmb)
    rw [hB, hL, ← hm] at C4
    obtain ⟨N, hNN⟩ : ∃ N, N = longF (bl c) (bl m) c.size := ⟨_, rfl⟩
    rw [← hNN] at C1 C2
    have HN := Lib.hid hNN
    clear hB hL hT hm hc hca hcb hl hsm hsc hbm hbc hM hN hcol hNN hza
    go_wp2_with fail
    refine (C1.out _).mono ?_
    rintro e w' ⟨rfl, hw⟩
    have B := Lib.hid (below_two B.out hw); clear hw
    go_wp2_with fail
    refine (C2.out _).mono ?_
    rintro e w' ⟨rfl, hw⟩
    have B := Lib.hid (below_two B.out hw); clear hw
    go_wp2_with fail
    refine (C3.out _).mono ?_
    rintro e w' ⟨rfl, hw⟩
    have B := Lib.hid (below_two B.out hw); clear hw
    go_wp2_with fail
    refine (C4.out _).mono ?_
    rintro e w' ⟨rfl, hw⟩
    have B := Lib.hid (below_two B.out hw); clear hw
    clear C1 C2 C3 C4
    go_wp2_with fail
    go_loop [10, 11] (fun v i => ∃ q L : Nat, q ≤ c.size ∧ i = .int .i64 (q : Int) ∧ v = .int .i64 (L : Int) ∧ Hid (L = longF (bl c) (bl m) q) ∧ L ≤ 13) (fun _ i => c.size - (intOf i).toNat)
    case atStart => exact ⟨0, 0, Nat.zero_le _, rfl, rfl, Lib.hid rfl, by decide⟩
    case round =>
      obtain ⟨q, L, hq, rfl, rfl, HL, hL⟩ := hrel
      by_cases hlt : q < c.size
      · have hqm : q < m.size := by rw [SM.out]; exact hlt
        have hm2 := hmk.out q hqm
        have gm := hgm.out q hqm
        by_cases h49 : m[q].toNat = 49
        · have t1 : ((m[q].toNat : Int) == 48) = false := by simp; omega
          have HY := Lib.hid (long_yes (c := bl c) (show (gd (bl m) q).toNat = 49 by rw [gm]; exact h49))
          clear gm h49 hm2
          go_wp2_with fail
          go_loop [12, 13] (fun kv jv => ∃ p kk : Nat, p ≤ q ∧ jv = .int .i64 ((p : Int) - 1) ∧ kv = .int .i64 (kk : Int) ∧ Hid (kk + run (bl c) p = 1 + run (bl c) q) ∧ kk ≤ 13) (fun _ jv => (intOf jv + 1).toNat)
          case atStart => exact ⟨q, 1, Nat.le_refl _, rfl, rfl, Lib.hid rfl, by decide⟩
          case round =>
            obtain ⟨p, kk, hp, rfl, rfl, HK, hk⟩ := hrel
            have fin : Hid (run (bl c) p = 0 → (max L kk : Nat) = longF (bl c) (bl m) (q + 1)) := Lib.hid fun h => by
              have h1 := HK.out
              rw [HY.out, ← HL.out]
              omega
            cases p with
            | zero =>
              have F := Lib.hid (fin.out rfl)
              go_wp2_with fail
              all_goals
                go_round
                case rel => exact ⟨q + 1, max L kk, by omega, by go_num, by go_num, F, by omega⟩
                case measure => simp [intOf] <;> omega
            | succ p =>
              have hpc : p < c.size := by omega
              have gc := hgc.out p hpc
              by_cases h57 : c[p].toNat = 57
              · have t2 : ((c[p].toNat : Int) == 57) = true := by simp [h57]
                have hr := run_nine (c := bl c) (i := p) (by rw [gc]; exact h57)
                have HK2 : Hid (kk + 1 + run (bl c) p = 1 + run (bl c) q) := Lib.hid (by have := HK.out; omega)
                have hk2 : kk + 1 ≤ 13 := by have := HK2.out; have := RB.out q; omega
                clear hr gc h57
                go_wp2_with fail
                go_round
                case rel => exact ⟨p, kk + 1, by omega, by go_num, by go_num, HK2, hk2⟩
                case measure => simp [intOf] <;> omega
              · have t2 : ((c[p].toNat : Int) == 57) = false := by simp; omega
                have F := Lib.hid (fin.out (run_else (by rw [gc]; exact h57)))
                clear gc h57
                go_wp2_with fail
                all_goals
                  go_round
                  case rel => exact ⟨q + 1, max L kk, by omega, by go_num, by go_num, F, by omega⟩
                  case measure => simp [intOf] <;> omega
        · have t1 : ((m[q].toNat : Int) == 48) = true := by simp; omega
          have HY := Lib.hid (long_no (c := bl c) (show (gd (bl m) q).toNat ≠ 49 by rw [gm]; exact h49))
          clear gm h49 hm2
          go_wp2_with fail
          go_round
          case rel => exact ⟨q + 1, L, by omega, by go_num, rfl, Lib.hid (by rw [HY.out]; exact HL.out), hL⟩
          case measure => simp [intOf] <;> omega
      · obtain rfl : q = c.size := by omega
        obtain rfl : L = N := by rw [HL.out, HN.out]
        go_wp2_with fail
        go_ret
        exact ⟨rfl, B.out⟩

set_option maxRecDepth 100000 in
theorem lifted_FnCarryChain (os : Os) (started : os.Started) (H : Type) (enc : TypeId × Value → H) :
    ReturnsInHanded {} Try.checked os 8 .any (Rows.fnCarryChainSpec.pre6 enc Try.prog Try.f8 Rows.fnCarryChainRow.domain false) (Rows.fnCarryChainSpec.post enc Try.prog Try.f8 false true false false) := by
  refine returnsInHanded_of_change (C := Try.checked) own started (by kernel_rfl) Try.func8
    (ChangeSpec.witness6 (enc := enc) (C := Try.checked) false ⟨#[], #[.slice none 0 0], []⟩ 8 (by kernel_rfl) (by kernel_rfl) (by kernel_rfl) (by kernel_rfl)) ?_
  intro W base args ds gs before hval0 hW hcnd _
  have hval : ∀ (j : Nat) t v, Try.f8.params[j]? = some t → args[j]? = some v → Value.okWide Try.prog W .any base t v := hval0
  have hW' := hW
  obtain ⟨p, q, hA0, hV, rfl, hfz, hnd⟩ := hW
  have hA : DataW.TrodAll enc Try.prog W 0 (fun _ => true) true Try.f8.params.toList args.toList ds p := hA0
  rw [Try.params8] at hA hval
  obtain ⟨v0, vs0, d0, ds0, p0, q0, hargs, rfl, rfl, h0, r0⟩ := trodAll_cons hA
  obtain ⟨rfl, rfl, rfl⟩ := trodAll_nil r0
  obtain rfl : args = #[v0] := by cases args; simp_all
  obtain ⟨rfl, rfl⟩ := trodVars_none hV
  obtain ⟨a0, len0, cap0, rfl⟩ := okWide_slice Try.underlying28 (hval 0 28 v0 rfl rfl)
  have k0 := h0
  have lt0 : ∀ x ∈ p0, x.block < W.heap.size := by obtain ⟨m, hm⟩ := k0; exact DataW.trod_lt m _ _ _ hm
  obtain ⟨z0, w0⟩ : ∃ zs, IsRow .u8 W a0 len0 cap0 zs := by
    obtain ⟨fuel, hf⟩ := h0
    rcases open_ints Try.underlying28 Try.underlying5 (by kernel_rfl) hf with ⟨hcs, _⟩ | ⟨x, l, c, zs, hcs, _, hl, hm, hz, _, hcell, hwz⟩
    · simp [Value.cells] at hcs
      obtain ⟨rfl, rfl, rfl⟩ := hcs
      exact ⟨[], .inl ⟨rfl, rfl, rfl, rfl⟩⟩
    · simp [Value.cells] at hcs
      obtain ⟨rfl, rfl, rfl⟩ := hcs
      exact ⟨zs, .inr ⟨_, rfl, hl, hm, by simpa using hz, hcell, hwz⟩⟩
  clear hA0 hval0
  refine (walk_FnCarryChain W a0 len0 cap0 z0 w0).mono fun e W' ⟨he, bel⟩ => ?_
  subst he
  exact ⟨_, rfl, _, _, _, [], _, [], hW', trodAll_mk1 (shut_bool Try.underlying4 _), (trodAll_cons_mk (Below.trod laidOut (by kernel_rfl) (of_decide_eq_true (by kernel_rfl)) k0 bel lt0) trodAll_mk0), rfl, bel.frame _, fun h => by cases h⟩

theorem over_FnCarryChain : Rows.fnCarryChainRow.holds Try.pinned (OpenSpec.ofChange Rows.fnCarryChainSpec) :=
  OpenClaim.holds_of_wide 8 Try.f8 rfl rfl rfl rfl rfl rfl rfl ⟨rfl, rfl, rfl, rfl, rfl⟩ rfl rfl rfl rfl rfl (by kernel_rfl) Try.func8 (by kernel_rfl)
    (of_decide_eq_true (by kernel_rfl)) (by unfold Func.isWrapper; first | (rw [if_pos (by decide +kernel)]; kernel_rfl) | (rw [if_neg (by decide +kernel)]; exact ⟨rfl, rfl⟩))
    (fun os started H enc _ => lifted_FnCarryChain os started H enc)

theorem fnCarryChain_proved : Rows.FnCarryChainSaid := over_FnCarryChain
#print axioms fnCarryChain_proved
end Go.Proofs.Ytghgienpkffcbaa
