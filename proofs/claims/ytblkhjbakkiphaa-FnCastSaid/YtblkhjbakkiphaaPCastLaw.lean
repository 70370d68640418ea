/- The statement FnCast: for every drawn argument the law holds. -/
import Derived.Test.YtblkhjbakkiphaaDrawCol
import Derived.Test.YtblkhjbakkiphaaColF
import Derived.Test.YtblkhjbakkiphaaColLaws
namespace Go.Proofs.Ytblkhjbakkiphaa
open Go.ChangeShapes Go.WideShapes Go.ChangeAt Go.RowKit

set_option maxHeartbeats 2000000 in
theorem walk_FnCast (w : World) (A0 : Option Addr) (n0 cap0 : Nat) (zs0 : List Int) (hz0 : IsRow .u8 w A0 n0 cap0 zs0) :
    Calls Try.prog 8 #[.slice A0 n0 cap0] w fun e w' => e = .returned (.bool true) ∧ Below w.heap.size w w' := by
  obtain ⟨hr, hc⟩ := hz0.rowB
  clear hz0
  by_cases hx : n0 ≤ 1048576
  rotate_left
  · clear hr
    go_enter Try.func8, Try.ntmps8
    go_wp2_with fail
    go_ret
    exact ⟨rfl, Below.refl _ _⟩
  have D := Lib.hid (drawAddColumns_any A0 n0 cap0 w hr hc hx)
  clear hr
  go_enter Try.func8, Try.ntmps8
  go_wp2_with fail
  refine D.out.mono ?_
  rintro e w1 ⟨a, b, ⟨rfl, ha, hb1⟩, hb⟩
  have B := Lib.hid hb; clear hb D
  have hma : a.size ≤ maxLen := by unfold maxLen; omega
  have hmb : b.size ≤ maxLen := by unfold maxLen; omega
  cases hB : alikeB (bl a) (bl b)
  · have hL : sumL (bl a) (bl b) = [] := by unfold sumL; rw [hB]; rfl
    have C1 := Lib.hid (fun W => add_impl a b W hma hmb)
    rw [hB, hL] at C1
    have C2 := Lib.hid (fun W => add_spec a b W hma hmb)
    rw [hB, hL] at C2
    clear hB hL
    cases hA : colB (bl a)
    · have hN := castOf_no (m := 9) hA
      have C3 := Lib.hid (fun W => columnValid_impl a W hma)
      rw [hA] at C3
      have C4 := Lib.hid (fun W => nines_impl a W hma)
      rw [hN] at C4
      clear hA hN
      go_wp2_with fail
      refine (C1.out _).mono ?_
      rintro e w' ⟨rfl, hw⟩
      have B := Lib.hid (below_two B.out hw); clear hw
      go_wp2_with fail
      refine (C2.out _).mono ?_
      rintro e w' ⟨rfl, hw⟩
      have B := Lib.hid (below_two B.out hw); clear hw
      go_wp2_with fail
      refine (C3.out _).mono ?_
      rintro e w' ⟨rfl, rfl⟩
      go_wp2_with fail
      refine (C4.out _).mono ?_
      rintro e w' ⟨rfl, rfl⟩
      go_wp2_with fail
      go_ret
      exact ⟨rfl, B.out⟩
    · skip
      have C3 := Lib.hid (fun W => columnValid_impl a W hma)
      rw [hA] at C3
      clear hA
      go_wp2_with fail
      refine (C1.out _).mono ?_
      rintro e w' ⟨rfl, hw⟩
      have B := Lib.hid (below_two B.out hw); clear hw
      go_wp2_with fail
      refine (C2.out _).mono ?_
      rintro e w' ⟨rfl, hw⟩
      have B := Lib.hid (below_two B.out hw); clear hw
      go_wp2_with fail
      refine (C3.out _).mono ?_
      rintro e w' ⟨rfl, rfl⟩
      go_wp2_with fail
      go_ret
      exact ⟨rfl, B.out⟩
  · obtain ⟨hca, hcb, hl⟩ := alikeB_iff.1 hB
    have C1 := Lib.hid (fun W => add_impl a b W hma hmb)
    rw [hB] at C1
    have C2 := Lib.hid (fun W => add_spec a b W hma hmb)
    rw [hB] at C2
    obtain ⟨s, hs⟩ : ∃ s, s = str (sumL (bl a) (bl b)) := ⟨_, rfl⟩
    have hbl : bl s = sumL (bl a) (bl b) := by rw [hs, bl_str]
    rw [← hs] at C1 C2
    have hcs : colB (bl s) = true := by rw [hbl]; exact (sum_shows hB).col
    have hms := col_max hcs
    have hza := col_size hca
    have f9 := cast_nines hB
    have f11 := cast_elevens hB
    have fd := val_nine (bl a)
    have bd := dsum_bd (bl a) (colB_dig hca)
    rw [length_bl] at bd f11
    rw [← hbl] at f9 f11
    have C3 := Lib.hid (fun W => valueOf_impl s W hms)
    rw [valOf_yes hcs] at C3
    have C4 := Lib.hid (fun W => valueOf_impl a W hma)
    rw [valOf_yes hca] at C4
    have C5 := Lib.hid (fun W => nines_impl a W hma)
    rw [castOf_yes hca, fd] at C5
    have C6 := Lib.hid (fun W => nines_impl b W hmb)
    rw [castOf_yes hcb] at C6
    have C7 := Lib.hid (fun W => nines_impl s W hms)
    rw [castOf_yes hcs] at C7
    have C8 := Lib.hid (fun W => elevens_impl a W hma)
    rw [castOf_yes hca] at C8
    have C9 := Lib.hid (fun W => elevens_impl b W hmb)
    rw [castOf_yes hcb] at C9
    have C10 := Lib.hid (fun W => elevens_impl s W hms)
    rw [castOf_yes hcs] at C10
    rw [fd] at f9
    have DG := Lib.hid (colB_dig hca)
    have b1 : 0 ≤ val (bl b) % 9 ∧ val (bl b) % 9 < 9 := by omega
    have b2 : 0 ≤ val (bl s) % 9 ∧ val (bl s) % 9 < 9 := by omega
    have b3 : 0 ≤ val (bl a) % 11 ∧ val (bl a) % 11 < 11 := by omega
    have b4 : 0 ≤ val (bl b) % 11 ∧ val (bl b) % 11 < 11 := by omega
    have b5 : 0 ≤ val (bl s) % 11 ∧ val (bl s) % 11 < 11 := by omega
    have b6 := val_small (colB_dig hca) (colB_len hca).2
    have b7 := val_small (colB_dig hcs) (colB_len hcs).2
    generalize val (bl b) % 9 = B9 at *
    generalize val (bl s) % 9 = S9 at *
    generalize val (bl a) % 11 = A11 at *
    generalize val (bl b) % 11 = B11 at *
    generalize val (bl s) % 11 = S11 at *
    have DS := Lib.hid (show ∀ k, k ≤ a.size → 0 ≤ dsum ((bl a).take k) ∧ dsum ((bl a).take k) ≤ 9 * (12 : Int) from fun k hk => by
      have := dsum_bd ((bl a).take k) (fun c hc => colB_dig hca c (List.mem_of_mem_take hc))
      rw [List.length_take] at this
      omega)
    generalize hda : dsum (bl a) = D at *
    have DA := Lib.hid hda
    have b8 : 0 ≤ D ∧ D ≤ 108 := by omega
    have b9 : 0 ≤ D % 9 ∧ D % 9 < 9 := by omega
    clear hB hs hbl hcs hca hcb hl fd hda bd
    generalize val (bl a) = va at *
    generalize val (bl s) = vs at *
    by_cases hlo : vs < va
    · rw [if_pos hlo] at f9 f11
      by_cases hp : a.size % 2 = 1
      · rw [if_pos hp] at f11
        have hpb : ((a.size : Int) % 2 == 1) = true := by simp; omega
        clear hp
        have t9 : ((D % 9 + B9 - 1 - S9).tmod 9 == 0) = true := by simp [f9]
        have t11 : ((A11 + B11 - 10 - S11).tmod 11 == 0) = true := by simpa using f11
        clear f9 f11
        go_wp2_with fail
        refine (C1.out _).mono ?_
        rintro e w' ⟨rfl, hw⟩
        have B := Lib.hid (below_two B.out hw); clear hw
        go_wp2_with fail
        refine (C2.out _).mono ?_
        rintro e w' ⟨rfl, hw⟩
        have B := Lib.hid (below_two B.out hw); clear hw
        go_wp2_with fail
        refine (C3.out _).mono ?_
        rintro e w' ⟨rfl, rfl⟩
        go_wp2_with fail
        refine (C4.out _).mono ?_
        rintro e w' ⟨rfl, rfl⟩
        clear C1 C2 C3 C4
        go_wp2_with fail
        go_loop [11, 12] (fun d i => ∃ (k : Nat) (z : Int), k ≤ a.size ∧ i = .int .i64 (k : Int) ∧ d = .int .i64 z ∧ Hid (z = dsum ((bl a).take k)) ∧ 0 ≤ z ∧ z ≤ 108) (fun _ i => a.size - (intOf i).toNat)
        case atStart => exact ⟨0, 0, Nat.zero_le _, rfl, rfl, Lib.hid rfl, by decide, by decide⟩
        case round =>
          obtain ⟨k, z, hk, rfl, rfl, Z, z0, z1⟩ := hrel
          by_cases hlt : k < a.size
          · have hd := DG.out _ (mem_at (bl_at a k hlt))
            have hn := DS.out (k + 1) hlt
            have HZ : Hid (z + (a[k].toNat : Int) - 48 = dsum ((bl a).take (k + 1))) := by
              refine Lib.hid ?_
              rw [take_bl a k hlt, dsum_snoc, ← Z.out]
              omega
            clear hn
            go_wp2_with fail
            go_round
            case rel => exact ⟨k + 1, _, by omega, by go_num, rfl, HZ, by have := DS.out (k + 1) hlt; have := HZ.out; omega, by have := DS.out (k + 1) hlt; have := HZ.out; omega⟩
            case measure => simp [intOf] <;> omega
          · obtain rfl : k = a.size := by omega
            have hz := Z.out
            rw [take_bl_all, DA.out] at hz
            subst hz
            clear Z
            go_wp2_with fail
            refine (C5.out _).mono ?_
            rintro e w' ⟨rfl, rfl⟩
            go_wp2_with fail
            refine (C5.out _).mono ?_
            rintro e w' ⟨rfl, rfl⟩
            go_wp2_with fail
            refine (C6.out _).mono ?_
            rintro e w' ⟨rfl, rfl⟩
            go_wp2_with fail
            refine (C7.out _).mono ?_
            rintro e w' ⟨rfl, rfl⟩
            go_wp2_with fail
            refine (C8.out _).mono ?_
            rintro e w' ⟨rfl, rfl⟩
            go_wp2_with fail
            refine (C9.out _).mono ?_
            rintro e w' ⟨rfl, rfl⟩
            go_wp2_with fail
            refine (C10.out _).mono ?_
            rintro e w' ⟨rfl, rfl⟩
            go_wp2_with fail
            go_ret
            exact ⟨rfl, B.out⟩
      · rw [if_neg hp] at f11
        have hpb : ((a.size : Int) % 2 == 1) = false := by simp; omega
        clear hp
        have t9 : ((D % 9 + B9 - 1 - S9).tmod 9 == 0) = true := by simp [f9]
        have t11 : ((A11 + B11 - 1 - S11).tmod 11 == 0) = true := by simpa using f11
        clear f9 f11
        go_wp2_with fail
        refine (C1.out _).mono ?_
        rintro e w' ⟨rfl, hw⟩
        have B := Lib.hid (below_two B.out hw); clear hw
        go_wp2_with fail
        refine (C2.out _).mono ?_
        rintro e w' ⟨rfl, hw⟩
        have B := Lib.hid (below_two B.out hw); clear hw
        go_wp2_with fail
        refine (C3.out _).mono ?_
        rintro e w' ⟨rfl, rfl⟩
        go_wp2_with fail
        refine (C4.out _).mono ?_
        rintro e w' ⟨rfl, rfl⟩
        clear C1 C2 C3 C4
        go_wp2_with fail
        go_loop [11, 12] (fun d i => ∃ (k : Nat) (z : Int), k ≤ a.size ∧ i = .int .i64 (k : Int) ∧ d = .int .i64 z ∧ Hid (z = dsum ((bl a).take k)) ∧ 0 ≤ z ∧ z ≤ 108) (fun _ i => a.size - (intOf i).toNat)
        case atStart => exact ⟨0, 0, Nat.zero_le _, rfl, rfl, Lib.hid rfl, by decide, by decide⟩
        case round =>
          obtain ⟨k, z, hk, rfl, rfl, Z, z0, z1⟩ := hrel
          by_cases hlt : k < a.size
          · have hd := DG.out _ (mem_at (bl_at a k hlt))
            have hn := DS.out (k + 1) hlt
            have HZ : Hid (z + (a[k].toNat : Int) - 48 = dsum ((bl a).take (k + 1))) := by
              refine Lib.hid ?_
              rw [take_bl a k hlt, dsum_snoc, ← Z.out]
              omega
            clear hn
            go_wp2_with fail
            go_round
            case rel => exact ⟨k + 1, _, by omega, by go_num, rfl, HZ, by have := DS.out (k + 1) hlt; have := HZ.out; omega, by have := DS.out (k + 1) hlt; have := HZ.out; omega⟩
            case measure => simp [intOf] <;> omega
          · obtain rfl : k = a.size := by omega
            have hz := Z.out
            rw [take_bl_all, DA.out] at hz
            subst hz
            clear Z
            go_wp2_with fail
            refine (C5.out _).mono ?_
            rintro e w' ⟨rfl, rfl⟩
            go_wp2_with fail
            refine (C5.out _).mono ?_
            rintro e w' ⟨rfl, rfl⟩
            go_wp2_with fail
            refine (C6.out _).mono ?_
            rintro e w' ⟨rfl, rfl⟩
            go_wp2_with fail
            refine (C7.out _).mono ?_
            rintro e w' ⟨rfl, rfl⟩
            go_wp2_with fail
            refine (C8.out _).mono ?_
            rintro e w' ⟨rfl, rfl⟩
            go_wp2_with fail
            refine (C9.out _).mono ?_
            rintro e w' ⟨rfl, rfl⟩
            go_wp2_with fail
            refine (C10.out _).mono ?_
            rintro e w' ⟨rfl, rfl⟩
            go_wp2_with fail
            go_ret
            exact ⟨rfl, B.out⟩
    · rw [if_neg hlo] at f9 f11
      by_cases hp : a.size % 2 = 1
      · rw [if_pos hp] at f11
        have hpb : ((a.size : Int) % 2 == 1) = true := by simp; omega
        clear hp
        have t9 : ((D % 9 + B9 - S9).tmod 9 == 0) = true := by simpa using f9
        have t11 : ((A11 + B11 - S11).tmod 11 == 0) = true := by simpa using f11
        clear f9 f11
        go_wp2_with fail
        refine (C1.out _).mono ?_
        rintro e w' ⟨rfl, hw⟩
        have B := Lib.hid (below_two B.out hw); clear hw
        go_wp2_with fail
        refine (C2.out _).mono ?_
        rintro e w' ⟨rfl, hw⟩
        have B := Lib.hid (below_two B.out hw); clear hw
        go_wp2_with fail
        refine (C3.out _).mono ?_
        rintro e w' ⟨rfl, rfl⟩
        go_wp2_with fail
        refine (C4.out _).mono ?_
        rintro e w' ⟨rfl, rfl⟩
        clear C1 C2 C3 C4
        go_wp2_with fail
        go_loop [11, 12] (fun d i => ∃ (k : Nat) (z : Int), k ≤ a.size ∧ i = .int .i64 (k : Int) ∧ d = .int .i64 z ∧ Hid (z = dsum ((bl a).take k)) ∧ 0 ≤ z ∧ z ≤ 108) (fun _ i => a.size - (intOf i).toNat)
        case atStart => exact ⟨0, 0, Nat.zero_le _, rfl, rfl, Lib.hid rfl, by decide, by decide⟩
        case round =>
          obtain ⟨k, z, hk, rfl, rfl, Z, z0, z1⟩ := hrel
          by_cases hlt : k < a.size
          · have hd := DG.out _ (mem_at (bl_at a k hlt))
            have hn := DS.out (k + 1) hlt
            have HZ : Hid (z + (a[k].toNat : Int) - 48 = dsum ((bl a).take (k + 1))) := by
              refine Lib.hid ?_
              rw [take_bl a k hlt, dsum_snoc, ← Z.out]
              omega
            clear hn
            go_wp2_with fail
            go_round
            case rel => exact ⟨k + 1, _, by omega, by go_num, rfl, HZ, by have := DS.out (k + 1) hlt; have := HZ.out; omega, by have := DS.out (k + 1) hlt; have := HZ.out; omega⟩
            case measure => simp [intOf] <;> omega
          · obtain rfl : k = a.size := by omega
            have hz := Z.out
            rw [take_bl_all, DA.out] at hz
            subst hz
            clear Z
            go_wp2_with fail
            refine (C5.out _).mono ?_
            rintro e w' ⟨rfl, rfl⟩
            go_wp2_with fail
            refine (C5.out _).mono ?_
            rintro e w' ⟨rfl, rfl⟩
            go_wp2_with fail
            refine (C6.out _).mono ?_
            rintro e w' ⟨rfl, rfl⟩
            go_wp2_with fail
            refine (C7.out _).mono ?_
            rintro e w' ⟨rfl, rfl⟩
            go_wp2_with fail
            refine (C8.out _).mono ?_
            rintro e w' ⟨rfl, rfl⟩
            go_wp2_with fail
            refine (C9.out _).mono ?_
            rintro e w' ⟨rfl, rfl⟩
            go_wp2_with fail
            refine (C10.out _).mono ?_
            rintro e w' ⟨rfl, rfl⟩
            go_wp2_with fail
            go_ret
            exact ⟨rfl, B.out⟩
      · rw [if_neg hp] at f11
        have hpb : ((a.size : Int) % 2 == 1) = false := by simp; omega
        clear hp
        have t9 : ((D % 9 + B9 - S9).tmod 9 == 0) = true := by simpa using f9
        have t11 : ((A11 + B11 - S11).tmod 11 == 0) = true := by simpa using f11
        clear f9 f11
        go_wp2_with fail
        refine (C1.out _).mono ?_
        rintro e w' ⟨rfl, hw⟩
        have B := Lib.hid (below_two B.out hw); clear hw
        go_wp2_with fail
        refine (C2.out _).mono ?_
        rintro e w' ⟨rfl, hw⟩
        have B := Lib.hid (below_two B.out hw); clear hw
        go_wp2_with fail
        refine (C3.out _).mono ?_
        rintro e w' ⟨rfl, rfl⟩
        go_wp2_with fail
        refine (C4.out _).mono ?_
        rintro e w' ⟨rfl, rfl⟩
        clear C1 C2 C3 C4
        go_wp2_with fail
        go_loop [11, 12] (fun d i => ∃ (k : Nat) (z : Int), k ≤ a.size ∧ i = .int .i64 (k : Int) ∧ d = .int .i64 z ∧ Hid (z = dsum ((bl a).take k)) ∧ 0 ≤ z ∧ z ≤ 108) (fun _ i => a.size - (intOf i).toNat)
        case atStart => exact ⟨0, 0, Nat.zero_le _, rfl, rfl, Lib.hid rfl, by decide, by decide⟩
        case round =>
          obtain ⟨k, z, hk, rfl, rfl, Z, z0, z1⟩ := hrel
          by_cases hlt : k < a.size
          · have hd := DG.out _ (mem_at (bl_at a k hlt))
            have hn := DS.out (k + 1) hlt
            have HZ : Hid (z + (a[k].toNat : Int) - 48 = dsum ((bl a).take (k + 1))) := by
              refine Lib.hid ?_
              rw [take_bl a k hlt, dsum_snoc, ← Z.out]
              omega
            clear hn
            go_wp2_with fail
            go_round
            case rel => exact ⟨k + 1, _, by omega, by go_num, rfl, HZ, by have := DS.out (k + 1) hlt; have := HZ.out; omega, by have := DS.out (k + 1) hlt; have := HZ.out; omega⟩
            case measure => simp [intOf] <;> omega
          · obtain rfl : k = a.size := by omega
            have hz := Z.out
            rw [take_bl_all, DA.out] at hz
            subst hz
            clear Z
            go_wp2_with fail
            refine (C5.out _).mono ?_
            rintro e w' ⟨rfl, rfl⟩
            go_wp2_with fail
            refine (C5.out _).mono ?_
            rintro e w' ⟨rfl, rfl⟩
            go_wp2_with fail
            refine (C6.out _).mono ?_
            rintro e w' ⟨rfl, rfl⟩
            go_wp2_with fail
            refine (C7.out _).mono ?_
            rintro e w' ⟨rfl, rfl⟩
            go_wp2_with fail
            refine (C8.out _).mono ?_
            rintro e w' ⟨rfl, rfl⟩
            go_wp2_with fail
            refine (C9.out _).mono ?_
            rintro e w' ⟨rfl, rfl⟩
            go_wp2_with fail
            refine (C10.out _).mono ?_
            rintro e w' ⟨rfl, rfl⟩
            go_wp2_with fail
            go_ret
            exact ⟨rfl, B.out⟩

set_option maxRecDepth 100000 in
theorem lifted_FnCast (os : Os) (started : os.Started) (H : Type) (enc : TypeId × Value → H) :
    ReturnsInHanded {} Try.checked os 8 .any (Rows.fnCastSpec.pre6 enc Try.prog Try.f8 Rows.fnCastRow.domain false) (Rows.fnCastSpec.post enc Try.prog Try.f8 false true false false) := by
  refine returnsInHanded_of_change (C := Try.checked) own started (by kernel_rfl) Try.func8
    (ChangeSpec.witness6 (enc := enc) (C := Try.checked) false ⟨#[], #[.slice none 0 0], []⟩ 8 (by kernel_rfl) (by kernel_rfl) (by kernel_rfl) (by kernel_rfl)) ?_
  intro W base args ds gs before hval0 hW hcnd _
  have hval : ∀ (j : Nat) t v, Try.f8.params[j]? = some t → args[j]? = some v → Value.okWide Try.prog W .any base t v := hval0
  have hW' := hW
  obtain ⟨p, q, hA0, hV, rfl, hfz, hnd⟩ := hW
  have hA : DataW.TrodAll enc Try.prog W 0 (fun _ => true) true Try.f8.params.toList args.toList ds p := hA0
  rw [Try.params8] at hA hval
  obtain ⟨v0, vs0, d0, ds0, p0, q0, hargs, rfl, rfl, h0, r0⟩ := trodAll_cons hA
  obtain ⟨rfl, rfl, rfl⟩ := trodAll_nil r0
  obtain rfl : args = #[v0] := by cases args; simp_all
  obtain ⟨rfl, rfl⟩ := trodVars_none hV
  obtain ⟨a0, len0, cap0, rfl⟩ := okWide_slice Try.underlying22 (hval 0 22 v0 rfl rfl)
  have k0 := h0
  have lt0 : ∀ x ∈ p0, x.block < W.heap.size := by obtain ⟨m, hm⟩ := k0; exact DataW.trod_lt m _ _ _ hm
  obtain ⟨z0, w0⟩ : ∃ zs, IsRow .u8 W a0 len0 cap0 zs := by
    obtain ⟨fuel, hf⟩ := h0
    rcases open_ints Try.underlying22 Try.underlying5 (by kernel_rfl) hf with ⟨hcs, _⟩ | ⟨x, l, c, zs, hcs, _, hl, hm, hz, _, hcell, hwz⟩
    · simp [Value.cells] at hcs
      obtain ⟨rfl, rfl, rfl⟩ := hcs
      exact ⟨[], .inl ⟨rfl, rfl, rfl, rfl⟩⟩
    · simp [Value.cells] at hcs
      obtain ⟨rfl, rfl, rfl⟩ := hcs
      exact ⟨zs, .inr ⟨_, rfl, hl, hm, by simpa using hz, hcell, hwz⟩⟩
  clear hA0 hval0
  refine (walk_FnCast W a0 len0 cap0 z0 w0).mono fun e W' ⟨he, bel⟩ => ?_
  subst he
  exact ⟨_, rfl, _, _, _, [], _, [], hW', trodAll_mk1 (shut_bool Try.underlying4 _), (trodAll_cons_mk (Below.trod laidOut (by kernel_rfl) (of_decide_eq_true (by kernel_rfl)) k0 bel lt0) trodAll_mk0), rfl, bel.frame _, fun h => by cases h⟩

theorem over_FnCast : Rows.fnCastRow.holds Try.pinned (OpenSpec.ofChange Rows.fnCastSpec) :=
  OpenClaim.holds_of_wide 8 Try.f8 rfl rfl rfl rfl rfl rfl rfl ⟨rfl, rfl, rfl, rfl, rfl⟩ rfl rfl rfl rfl rfl (by kernel_rfl) Try.func8 (by kernel_rfl)
    (of_decide_eq_true (by kernel_rfl)) (by unfold Func.isWrapper; first | (rw [if_pos (by decide +kernel)]; kernel_rfl) | (rw [if_neg (by decide +kernel)]; exact ⟨rfl, rfl⟩))
    (fun os started H enc _ => lifted_FnCast os started H enc)

theorem fnCast_proved : Rows.FnCastSaid := over_FnCast
#print axioms fnCast_proved
end Go.Proofs.Ytblkhjbakkiphaa
