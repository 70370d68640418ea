/- The card of FnSigned: for every drawn argument the law holds. The listed variables are tied to the program's text. -/
import Derived.Test.YthhkpghecekoeaaDoorNumFns
import Derived.Test.YthhkpghecekoeaaDoorDoor
import Derived.Test.YthhkpghecekoeaaDoorDrawCol
import Derived.Test.YthhkpghecekoeaaDoorCards
import Derived.SevenTiedAt
import Derived.ChangeMaps5
namespace Go.Proofs.YthhkpghecekoeaaDoor
open Go.ChangeShapes Go.WideShapes Go.ChangeAt Go.RowKit
open Go.ChangeMaps (open_string shut_string)

theorem dd_short (u : Nat) (h : u < 100000000000000000) : (Lib.decDigits u).length ≤ 17 := by
  by_cases h0 : u = 0
  · have := (dd_facts u).2.2.2.2 (by omega); omega
  · have f := dd_facts u
    have hv := f.2.2.2.1
    rw [val_vN _ f.1] at hv
    cases hd : Lib.decDigits u with
    | nil => exact absurd hd f.2.1
    | cons c r =>
      rw [hd] at hv f
      have hc := f.1 c (List.mem_cons_self ..)
      have h48 : c.toNat ≠ 48 := f.2.2.1 (by omega)
      rw [vN] at hv
      have hp : 1 * 10 ^ r.length ≤ (c.toNat - 48) * 10 ^ r.length := Nat.mul_le_mul_right _ (by omega)
      rw [List.length_cons]
      apply Classical.byContradiction
      intro hl
      have hm : 10 ^ 17 ≤ 10 ^ r.length := Nat.pow_le_pow_right (by decide) (by omega)
      omega
theorem itoa_num {n : Int} (h1 : -1000000000000 ≤ n) (h2 : n ≤ 1000000000000) : numB (Lib.itoa n) = true ∧ numV (Lib.itoa n) = n := by
  by_cases hn : n < 0
  · have e : Lib.itoa n = 45 :: Lib.decDigits n.natAbs := by unfold Lib.itoa; rw [if_pos hn]
    have hs := dd_short n.natAbs (by omega)
    have hm : minB (Lib.itoa n) = true := by rw [e]; rfl
    have hb : numB (Lib.itoa n) = true := num_of (by unfold bareN; rw [if_pos hm, e, List.length_cons]; omega) rfl
    refine ⟨hb, ?_⟩
    unfold numV
    rw [if_pos hb, if_pos hm, e, show (45 :: Lib.decDigits n.natAbs).drop 1 = Lib.decDigits n.natAbs from rfl, (dd_facts n.natAbs).2.2.2.1]
    omega
  · have e : Lib.itoa n = Lib.decDigits n.toNat := by unfold Lib.itoa; rw [if_neg hn]
    have hs := dd_short n.toNat (by omega)
    have f := dd_facts n.toNat
    have hm : ¬ minB (Lib.itoa n) = true := by
      rw [e]
      cases hd : Lib.decDigits n.toNat with
      | nil => exact absurd hd f.2.1
      | cons c r =>
        have hc := f.1 c (by rw [hd]; exact List.mem_cons_self ..)
        intro h
        rw [show minB (c :: r) = (c == 45) from rfl, beq_iff_eq] at h
        rw [h] at hc
        exact absurd hc.1 (by decide)
    have hb : numB (Lib.itoa n) = true := num_of (by unfold bareN; rw [if_neg hm, e]; exact hs) rfl
    refine ⟨hb, ?_⟩
    unfold numV
    rw [if_pos hb, if_neg hm, e, f.2.2.2.1]
    omega
theorem itoa_short {n : Int} (h1 : -1000000000000 ≤ n) (h2 : n ≤ 1000000000000) : (Lib.itoa n).length ≤ 21 := Lib.itoa_length_le n (by omega) (by omega)

set_option maxHeartbeats 2000000 in
theorem walk_FnSigned (w : World) (A0 : Option Addr) (n0 cap0 : Nat) (zs0 : List Int) (hz0 : IsRow .u8 w A0 n0 cap0 zs0) (hT : TabAt w ∧ ErrAt w) :
    Calls Tryd.prog 5 #[.slice A0 n0 cap0] w fun e w' => e = .returned (.bool true) ∧ Below w.heap.size w w' := by
  obtain ⟨hr, hc⟩ := hz0.rowB
  clear hz0
  by_cases hx : n0 ≤ 1048576
  rotate_left
  · clear hr hT
    go_enter Tryd.func5, Tryd.ntmps5
    go_wp2_with fail
    go_ret
    exact ⟨rfl, Below.refl _ _⟩
  have D := Lib.hid (drawSignedOf_any A0 n0 cap0 w hr hc hx)
  have T := Lib.hid hT
  clear hr hT
  go_enter Tryd.func5, Tryd.ntmps5
  go_wp2_with fail
  refine D.out.mono ?_
  rintro e w1 ⟨c, ⟨rfl, hc1⟩, hb⟩
  have TT := Lib.hid (And.intro (T.out.1.keep hb) (T.out.2.keep hb))
  have B := Lib.hid hb; clear hb D T
  have hmc : c.size ≤ maxLen := by unfold maxLen; omega
  have C1 := Lib.hid (fun W => signedOf_impl c W hmc)
  have C2 := Lib.hid (fun W => signedOf_spec c W hmc)
  have C3 := Lib.hid (fun W => columnValid_impl c W hmc)
  cases hB : colB (bl c)
  · have hs := sgnOf_no hB
    rw [hB, hs] at C1 C2
    rw [hB] at C3
    clear hB hs
    go_wp2_with fail
    refine (C1.out _).mono ?_
    rintro e w' ⟨rfl, rfl⟩
    go_wp2_with fail
    refine (C2.out _).mono ?_
    rintro e w' ⟨rfl, rfl⟩
    go_wp2_with fail
    refine (C3.out _).mono ?_
    rintro e w' ⟨rfl, rfl⟩
    go_wp2_with fail
    refine (C3.out _).mono ?_
    rintro e w' ⟨rfl, rfl⟩
    go_wp2_with fail
    go_ret
    exact ⟨rfl, B.out⟩
  · have hz := col_size hB
    have g1 := colOf_sgn hB
    rw [length_bl] at g1
    have bd := sgnOf_bd (bl c)
    have hv := val_small (colB_dig hB) (colB_len hB).2
    have hne := sgn_neg hB
    have hsame : ¬ sgnOf (bl c) < 0 → val (bl c) = sgnOf (bl c) := fun h => by
      rw [hne] at h
      rw [sgnOf_lo hB (by omega)]
    obtain ⟨f1, f2⟩ := itoa_num (n := sgnOf (bl c)) (by omega) (by omega)
    obtain ⟨q, hq⟩ : ∃ q, q = str (Lib.itoa (sgnOf (bl c))) := ⟨_, rfl⟩
    have hbq : bl q = Lib.itoa (sgnOf (bl c)) := by rw [hq, bl_str]
    have hmq : q.size ≤ maxLen := by
      have := itoa_short (n := sgnOf (bl c)) (by omega) (by omega)
      rw [hq, size_str]; unfold maxLen; omega
    have k1 : parB (bl q) (c.size : Int) = true := by rw [hbq, (par_yes f1).1, f2]; exact g1.1
    have k2 : parL (bl q) (c.size : Int) = bl c := by rw [hbq, (par_yes f1).2, f2]; exact g1.2
    have C4 := Lib.hid (fun W => columnOf_impl (sgnOf (bl c)) (c.size : Int) W)
    have C5 := Lib.hid (fun W => valueOf_impl c W hmc)
    have C6 := Lib.hid (fun W h => format_impl c W hmc h)
    have C7 := Lib.hid (fun W h1 h2 => parse_impl q (c.size : Int) W hmq h1 h2)
    rw [hB] at C1 C2 C3
    rw [g1.1, g1.2, str_bl] at C4
    rw [valOf_yes hB] at C5
    rw [show fmtL (bl c) = Lib.itoa (sgnOf (bl c)) by unfold fmtL; rw [hB]; rfl, ← hq] at C6
    rw [k1, k2, str_bl] at C7
    generalize sgnOf (bl c) = n at *
    generalize val (bl c) = v at *
    clear hB g1 f1 f2 hq hbq k1 k2 hne
    by_cases hn : n < 0
    · have hvn : (v == n) = false := beq_eq_false_iff_ne.2 (by omega)
      have hn0 : ¬ 0 ≤ n := by omega
      clear hsame
      go_wp2_with fail
      refine (C1.out _).mono ?_
      rintro e w' ⟨rfl, rfl⟩
      go_wp2_with fail
      refine (C2.out _).mono ?_
      rintro e w' ⟨rfl, rfl⟩
      go_wp2_with fail
      refine (C3.out _).mono ?_
      rintro e w' ⟨rfl, rfl⟩
      go_wp2_with fail
      refine (C4.out _).mono ?_
      rintro e w2 ⟨rfl, hw⟩
      have T2 := Lib.hid (And.intro (TT.out.1.keep hw) (TT.out.2.keep hw))
      have B := Lib.hid (below_two B.out hw); clear hw
      go_wp2_with fail
      refine (C5.out _).mono ?_
      rintro e w' ⟨rfl, rfl⟩
      go_wp2_with fail
      refine (C6.out _ T2.out.1).mono ?_
      rintro e w3 ⟨rfl, hw⟩
      have T3 := Lib.hid (And.intro (T2.out.1.keep hw) (T2.out.2.keep hw))
      have B := Lib.hid (below_two B.out hw); clear hw
      go_wp2_with fail
      refine (C7.out _ T3.out.1 T3.out.2).mono ?_
      rintro e w4 ⟨rfl, hw⟩
      have B := Lib.hid (below_two B.out hw); clear hw
      go_wp2_with fail
      go_ret
      exact ⟨ret_bool (by rw [decide_eq_false (by omega)]; rfl), B.out⟩
    · obtain rfl := hsame hn
      have hn0 : 0 ≤ v := by omega
      clear hsame
      go_wp2_with fail
      refine (C1.out _).mono ?_
      rintro e w' ⟨rfl, rfl⟩
      go_wp2_with fail
      refine (C2.out _).mono ?_
      rintro e w' ⟨rfl, rfl⟩
      go_wp2_with fail
      refine (C3.out _).mono ?_
      rintro e w' ⟨rfl, rfl⟩
      go_wp2_with fail
      refine (C4.out _).mono ?_
      rintro e w2 ⟨rfl, hw⟩
      have T2 := Lib.hid (And.intro (TT.out.1.keep hw) (TT.out.2.keep hw))
      have B := Lib.hid (below_two B.out hw); clear hw
      go_wp2_with fail
      refine (C5.out _).mono ?_
      rintro e w' ⟨rfl, rfl⟩
      go_wp2_with fail
      refine (C6.out _ T2.out.1).mono ?_
      rintro e w3 ⟨rfl, hw⟩
      have T3 := Lib.hid (And.intro (T2.out.1.keep hw) (T2.out.2.keep hw))
      have B := Lib.hid (below_two B.out hw); clear hw
      go_wp2_with fail
      refine (C7.out _ T3.out.1 T3.out.2).mono ?_
      rintro e w4 ⟨rfl, hw⟩
      have B := Lib.hid (below_two B.out hw); clear hw
      go_wp2_with fail
      go_ret
      exact ⟨rfl, B.out⟩

set_option maxRecDepth 100000 in
theorem lifted_FnSigned (os : Os) (started : os.Started) (H : Type) (enc : TypeId × Value → H) :
    ReturnsInHanded {} Tryd.checked os 5 .any (fun w args => (Rows.fnSignedSpec.pre enc Tryd.prog Tryd.f5 [] false w args ∧ laidMetH Tryd.prog Rows.fnSignedRow.laid w) ∧ sizedMet enc Tryd.prog Tryd.f5 (OpenSpec.ofChange Rows.fnSignedSpec) false w args)
      (Rows.fnSignedSpec.post enc Tryd.prog Tryd.f5 false true false false) := by
  refine returnsInHanded_of_change_and (C := Tryd.checked) (X := fun w _ => laidMetH Tryd.prog Rows.fnSignedRow.laid w) (fun _ _ _ hh h => h.of_heap hh) own started (by kernel_rfl) Tryd.func5
    (ChangeSpec.witness_shaped (enc := enc) (C := Tryd.checked) (os := os) (X := fun w _ => laidMetH Tryd.prog Rows.fnSignedRow.laid w) false (World.doorLaid Tryd.prog 4000 os) #[.slice none 0 0] 8 (door_os os) (door_ref os _) (by kernel_rfl) (by kernel_rfl) (by kernel_rfl) (door_met5 os _)) ?_
  intro W base args ds gs before hval0 hW _ _ hL _
  have hval : ∀ (j : Nat) t v, Tryd.f5.params[j]? = some t → args[j]? = some v → Value.okWide Tryd.prog W .any base t v := hval0
  have hW' := hW
  obtain ⟨p, q, hA0, hV, rfl, hfz, hnd⟩ := hW
  have hA : DataW.TrodAll enc Tryd.prog W 0 (fun _ => true) true Tryd.f5.params.toList args.toList ds p := hA0
  rw [Tryd.params5] at hA hval
  obtain ⟨v0, vs0, d0, ds0, p0, q0, hargs, rfl, rfl, h0, r0⟩ := trodAll_cons hA
  obtain ⟨rfl, rfl, rfl⟩ := trodAll_nil r0
  obtain rfl : args = #[v0] := by cases args; simp_all
  obtain ⟨rfl, rfl⟩ := trodVars_none hV
  obtain ⟨a0, len0, cap0, rfl⟩ := okWide_slice Tryd.underlying27 (hval 0 27 v0 rfl rfl)
  have k0 := h0
  have lt0 : ∀ x ∈ p0, x.block < W.heap.size := by obtain ⟨m, hm⟩ := k0; exact DataW.trod_lt m _ _ _ hm
  obtain ⟨z0, w0⟩ : ∃ zs, IsRow .u8 W a0 len0 cap0 zs := by
    obtain ⟨fuel, hf⟩ := h0
    rcases open_ints Tryd.underlying27 Tryd.underlying5 (by kernel_rfl) hf with ⟨hcs, _⟩ | ⟨x, l, c, zs, hcs, _, hl, hm, hz, _, hcell, hwz⟩
    · simp [Value.cells] at hcs
      obtain ⟨rfl, rfl, rfl⟩ := hcs
      exact ⟨[], .inl ⟨rfl, rfl, rfl, rfl⟩⟩
    · simp [Value.cells] at hcs
      obtain ⟨rfl, rfl, rfl⟩ := hcs
      exact ⟨zs, .inr ⟨_, rfl, hl, hm, by simpa using hz, hcell, hwz⟩⟩
  clear hA0 hval0
  refine (walk_FnSigned W a0 len0 cap0 z0 w0 (of_laid5 hL)).mono fun e W' ⟨he, bel⟩ => ?_
  subst he
  exact ⟨_, rfl, _, _, _, [], _, [], hW', trodAll_mk1 (shut_bool Tryd.underlying4 _), (trodAll_cons_mk (Below.trod laidOut (by kernel_rfl) (of_decide_eq_true (by kernel_rfl)) k0 bel lt0) trodAll_mk0), rfl, bel.frame _, fun h => by cases h⟩

theorem over_FnSigned : Rows.FnSignedSaid :=
  OpenClaim.holds_of_wide 5 Tryd.f5 rfl rfl rfl rfl rfl rfl rfl ⟨rfl, rfl, rfl, rfl, rfl⟩ rfl rfl rfl rfl rfl (by kernel_rfl) Tryd.func5 (by kernel_rfl)
    (of_decide_eq_true (by kernel_rfl)) (by unfold Func.isWrapper; first | (rw [if_pos (by decide +kernel)]; kernel_rfl) | (rw [if_neg (by decide +kernel)]; exact ⟨rfl, rfl⟩))
    (fun os started H enc _ => lifted_FnSigned os started H enc)

theorem fnSignedCard_proved : Rows.FnSignedCardSaid :=
  Claim7.holds_tied_plain_at .later [] Rows.fnSignedCard.laidKinds true Rows.fnSignedCard.stood.harness true
    over_FnSigned (fun _ h => by cases h) (by kernel_rfl) (fun _ h => by cases h) fnSigned_row_tie rfl ⟨rfl, rfl⟩ (by kernel_rfl) rfl
    (fun f fn hf hfn => by
      obtain rfl : f = 5 := Option.some.inj ((show Tryd.prog.funcNamed Rows.fnSignedRow.func = some 5 by kernel_rfl).symm.trans hf) |>.symm
      obtain rfl : fn = Tryd.f5 := (Option.some.inj (Tryd.func5.symm.trans hfn)).symm
      exact ⟨by kernel_rfl, fun j t ht => by
        rw [Tryd.params5] at ht
        have hm : t ∈ [27] := by simpa using Array.mem_of_getElem? ht
        have hall : ([27].all fun u => !Tryd.prog.wantsStandIn u) = true := by kernel_rfl
        exact (show Tryd.prog.wantsStandIn t = false by simpa using List.all_eq_true.1 hall t hm)⟩)
    (by kernel_rfl)
#print axioms fnSignedCard_proved
end Go.Proofs.YthhkpghecekoeaaDoor
