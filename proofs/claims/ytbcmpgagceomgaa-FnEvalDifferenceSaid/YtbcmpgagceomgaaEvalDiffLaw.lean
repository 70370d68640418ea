/- The statement FnEvalDifference: for every drawn argument the law holds. -/
import Derived.Test.YtbcmpgagceomgaaDrawPoly
import Derived.Test.YtbcmpgagceomgaaPolyB
import Derived.Test.YtbcmpgagceomgaaEval
import Derived.Test.YtbcmpgagceomgaaPascalPlain
import Derived.Test.YtbcmpgagceomgaaRowB
import Derived.Deep.RegionWith
import Derived.IntWalk
namespace Go.Proofs.Ytbcmpgagceomgaa
open Go.ChangeShapes Go.WideShapes Go.ChangeAt Go.RowKit

theorem evT_zero (a : Int) (p : List Int) (j : Nat) : evT (a :: p) 0 (j + 1) = a := by
  induction j with
  | zero => simp [evT, chz]
  | succ j ih =>
    have h1 : evT (a :: p) 0 (j + 1 + 1) = evT (a :: p) 0 (j + 1) + (a :: p).getD (j + 1) 0 * chz 0 (j + 1) := rfl
    rw [h1, ih, chz_none, Int.mul_zero, Int.add_zero]
theorem evZ_zero {xs : List Int} (h : 0 < xs.length) : evZ xs 0 = xs[0] := by
  cases xs with
  | nil => exact absurd h (by decide)
  | cons a p => exact evT_zero a p p.length
theorem diff_value {xs : List Int} {n : Int} (h : evB xs n = true) (hn : n ≤ 199) :
    evV xs n = evZ xs n ∧ evV xs (n + 1) = evV xs n + evV (diffP xs) n ∧ (∀ h0 : 0 < xs.length, evV xs 0 = xs[0]) ∧ -900000000000000000 ≤ evV xs (n + 1) ∧ evV xs (n + 1) ≤ 900000000000000000 := by
  have hh := h
  unfold evB at hh
  rw [Bool.and_eq_true] at hh
  have hb := inB_true hh.2
  have hl := poly_len hh.1
  have h1 : evB xs (n + 1) = true := by unfold evB; rw [hh.1, inB_mk (by omega) (by omega)]; rfl
  have h2 : evB xs 0 = true := by unfold evB; rw [hh.1, inB_mk (by omega) (by omega)]; rfl
  have hs := evT_small (poly_bd hh.1) (n := n + 1) (by omega) (by omega) hl.2 xs.length (Nat.le_refl _)
  refine ⟨evV_yes h, ?_, fun h0 => by rw [evV_yes h2, evZ_zero h0], ?_⟩
  · have hst := evZ_step xs n
    rw [evV_yes h1, evV_yes h]
    have hd : evV (diffP xs) n = evZ (xs.drop 1) n := by
      by_cases hx : xs.length = 1
      · have e : diffP xs = [0] := by unfold diffP; rw [if_pos hh.1, if_pos hx]
        have e2 : xs.drop 1 = [] := List.drop_of_length_le (by omega)
        have e3 : evB [0] n = true := by unfold evB; rw [hh.2, show polyB [0] = true by decide]; rfl
        rw [e, e2, evV_yes e3]
        simp [evZ, evT]
      · have e : diffP xs = xs.drop 1 := by unfold diffP; rw [if_pos hh.1, if_neg hx]
        have e3 : evB (xs.drop 1) n = true := by
          unfold evB
          rw [hh.2, show polyB (xs.drop 1) = true from listB_iff.2 ⟨by rw [List.length_drop]; omega, fun x hx => poly_bd hh.1 x (List.mem_of_mem_drop hx)⟩]
          rfl
        rw [e, evV_yes e3]
    rw [hd]
    omega
  · rw [evV_yes h1]
    unfold evZ
    omega

set_option maxHeartbeats 400000 in
theorem deAt_any (A : Option Addr) (n cap : Nat) (xs : List Int) (z : Int) (w : World) (B : Nat) (hr : Row w B A xs) (hn : n = xs.length) (hx : n ≤ 10000000) :
    Calls Try.prog 28 #[.slice A n cap, .int .i64 z] w fun e w' => e = .returned (.int .i64 (evV xs z)) ∧ w = w' := by
  have C := Lib.hid (evalPoly_impl A n cap xs z w B hr hn hx)
  clear hr hn
  go_enter Try.func28, Try.ntmps28
  go_wp2_with fail
  refine C.out.mono ?_
  rintro e w' ⟨rfl, rfl⟩
  go_wp2_with fail
  go_ret
  exact ⟨rfl, rfl⟩

theorem below_two {w a b : World} (h1 : Below w.heap.size w a) (h2 : Below a.heap.size a b) : Below w.heap.size w b := h1.trans (h2.mono h1.size)

set_option maxHeartbeats 2000000 in
theorem walk_FnEvalDifference (w : World) (A0 : Option Addr) (n0 cap0 : Nat) (zs0 : List Int) (hz0 : IsRow .u8 w A0 n0 cap0 zs0) :
    Calls Try.prog 8 #[.slice A0 n0 cap0] w fun e w' => e = .returned (.bool true) ∧ Below w.heap.size w w' := by
  obtain ⟨hr, hc⟩ := hz0.rowB
  clear hz0
  by_cases hx : n0 ≤ 1048576
  rotate_left
  · clear hr
    go_enter Try.func8, Try.ntmps8
    go_wp2_with fail
    go_ret
    exact ⟨rfl, Below.refl _ _⟩
  have D := Lib.hid (drawEvalPoly_any A0 n0 cap0 w hr hc hx)
  clear hr
  go_enter Try.func8, Try.ntmps8
  go_wp2_with fail
  refine D.out.mono ?_
  rintro e w1 ⟨xs, A1, n, c1, z, ⟨rfl, hz⟩, ⟨hn, h8, hcap⟩, hrow, hb⟩
  have B := Lib.hid hb; clear hb D
  unfold I64 at hz
  have hn7 : n ≤ 10000000 := by omega
  have R := Lib.hid hrow; have N := Lib.hid hn
  have C1 := Lib.hid (evalPoly_impl A1 n c1 xs z w1 _ hrow hn hn7)
  have C2 := Lib.hid (evalPoly_spec A1 n c1 xs z w1 hrow hn hn7)
  clear hrow hn
  cases hB : evB xs z
  · have hv := evV_no hB
    rw [hB, hv] at C1 C2
    clear hB hv
    go_wp2_with fail
    refine C1.out.mono ?_
    rintro e w' ⟨rfl, rfl⟩
    go_wp2_with fail
    refine C2.out.mono ?_
    rintro e w' ⟨rfl, m, rfl⟩
    go_wp2_with fail
    go_ret
    exact ⟨rfl, below_drewN B.out _⟩
  · by_cases h200 : z = 200
    · subst h200
      rw [hB] at C1 C2
      generalize evV xs 200 = v at *
      clear hB
      go_wp2_with fail
      refine C1.out.mono ?_
      rintro e w' ⟨rfl, rfl⟩
      go_wp2_with fail
      refine C2.out.mono ?_
      rintro e w' ⟨rfl, m, rfl⟩
      go_wp2_with fail
      go_ret
      exact ⟨rfl, below_drewN B.out _⟩
    · have hb200 : (z == 200) = false := by simp [h200]
      have hh := hB
      unfold evB at hh
      rw [Bool.and_eq_true] at hh
      have hin := inB_true hh.2
      have hl := poly_len hh.1
      have hzz : z ≤ 199 := by omega
      obtain ⟨f1, f2, f3, f4, f5⟩ := diff_value hB hzz
      clear f1
      have h0x : 0 < xs.length := by omega
      have f6 := f3 h0x
      have h0n : 0 < n := by have := N.out; omega
      rw [hB] at C1 C2
      obtain ⟨b, o, rfl⟩ := poly_addr R.out hl.1
      have C3 := Lib.hid (fun W (h : Row W W.heap.size (some ⟨b, o, none⟩) xs) => deAt_any (some ⟨b, o, none⟩) n c1 xs (z + 1) W _ h N.out hn7)
      have C4 := Lib.hid (fun W (h : Row W W.heap.size (some ⟨b, o, none⟩) xs) => deAt_any (some ⟨b, o, none⟩) n c1 xs 0 W _ h N.out hn7)
      have C5 := Lib.hid (fun W (h : Row W W.heap.size (some ⟨b, o, none⟩) xs) => diffPoly_impl (some ⟨b, o, none⟩) n c1 xs W h N.out hcap hn7)
      have C6 := Lib.hid (fun W A3 c3 (h : Row W W.heap.size A3 (diffP xs)) => deAt_any A3 (diffP xs).length c3 (diffP xs) z W _ h rfl (by have := diffP_length xs; omega))
      have CX : Hid (∀ W, Row W W.heap.size (some ⟨b, o, none⟩) xs → W.cell? ⟨b, o, none⟩ = some (.int .i64 xs[0])) := Lib.hid fun W h => by
        obtain ⟨b', o', e', hlt, hcell⟩ := h 0 h0x
        simp only [Option.some.injEq, Addr.mk.injEq, and_true] at e'
        obtain ⟨rfl, rfl⟩ := e'
        exact hcell
      rw [f2] at C3 f4 f5
      rw [f6] at C4
      generalize evV xs z = v at *
      generalize evV (diffP xs) z = d at *
      generalize xs[0] = x0 at *
      generalize evV xs (z + 1) = u1 at *
      generalize evV xs 0 = u2 at *
      clear f2 f3 f6 hB hh hin hl h0x
      go_wp2_with fail
      refine C1.out.mono ?_
      rintro e w' ⟨rfl, rfl⟩
      go_wp2_with fail
      refine C2.out.mono ?_
      rintro e w' ⟨rfl, m, rfl⟩
      have R2 := Lib.hid (show Row (w1.drewN m) (w1.drewN m).heap.size (some ⟨b, o, none⟩) xs from R.out.keep (below_drewN (Below.refl w1.heap.size w1) m))
      have B2 := Lib.hid (below_drewN B.out m)
      clear R B C1 C2
      generalize w1.drewN m = w2 at *
      have hcell := CX.out w2 R2.out
      have hw1 : IntKind.i64.wrap (z + 1) = z + 1 := IntWalk.i64_in _ (by omega)
      have hw2 : IntKind.i64.wrap (v + d) = v + d := IntWalk.i64_in _ (by omega)
      go_wp2_with fail
      go_region_with (first | (go_at_call 28; (with_reducible refine (C3.out _ ?_).mono ?_); exact R2.out; rintro e w' ⟨rfl, rfl⟩) | (go_at_call 29; refine (C5.out _ ?_).mono ?_; exact R2.out; rintro e w3 ⟨A3, c3, rfl, o3, b3⟩; have R3 := Lib.hid o3.row; have R4 := Lib.hid (Row.more (Row.keep (w := w2.drew) (show Row w2.drew w2.drew.heap.size _ _ from R2.out) b3) b3.size); have B3 := Lib.hid (below_two B2.out.drew b3); have hcell3 := CX.out w3 R4.out; clear o3 b3) | (go_at_call 28; (with_reducible refine (C4.out _ ?_).mono ?_); exact R4.out; rintro e w' ⟨rfl, rfl⟩) | (go_at_call 28; (with_reducible refine (C6.out _ _ _ ?_).mono ?_); exact R3.out; rintro e w' ⟨rfl, rfl⟩))
      all_goals
        clear hw1 hw2
        go_wp2_with fail
        go_ret
        exact ⟨rfl, B3.out⟩

set_option maxRecDepth 100000 in
theorem lifted_FnEvalDifference (os : Os) (started : os.Started) (H : Type) (enc : TypeId × Value → H) :
    ReturnsInHanded {} Try.checked os 8 .any (Rows.fnEvalDifferenceSpec.pre6 enc Try.prog Try.f8 Rows.fnEvalDifferenceRow.domain false) (Rows.fnEvalDifferenceSpec.post enc Try.prog Try.f8 false true false false) := by
  refine returnsInHanded_of_change (C := Try.checked) own started (by kernel_rfl) Try.func8
    (ChangeSpec.witness6 (enc := enc) (C := Try.checked) false ⟨#[], #[.slice none 0 0], []⟩ 8 (by kernel_rfl) (by kernel_rfl) (by kernel_rfl) (by kernel_rfl)) ?_
  intro W base args ds gs before hval0 hW hcnd _
  have hval : ∀ (j : Nat) t v, Try.f8.params[j]? = some t → args[j]? = some v → Value.okWide Try.prog W .any base t v := hval0
  have hW' := hW
  obtain ⟨p, q, hA0, hV, rfl, hfz, hnd⟩ := hW
  have hA : DataW.TrodAll enc Try.prog W 0 (fun _ => true) true Try.f8.params.toList args.toList ds p := hA0
  rw [Try.params8] at hA hval
  obtain ⟨v0, vs0, d0, ds0, p0, q0, hargs, rfl, rfl, h0, r0⟩ := trodAll_cons hA
  obtain ⟨rfl, rfl, rfl⟩ := trodAll_nil r0
  obtain rfl : args = #[v0] := by cases args; simp_all
  obtain ⟨rfl, rfl⟩ := trodVars_none hV
  obtain ⟨a0, len0, cap0, rfl⟩ := okWide_slice Try.underlying35 (hval 0 35 v0 rfl rfl)
  have k0 := h0
  have lt0 : ∀ x ∈ p0, x.block < W.heap.size := by obtain ⟨m, hm⟩ := k0; exact DataW.trod_lt m _ _ _ hm
  obtain ⟨z0, w0⟩ : ∃ zs, IsRow .u8 W a0 len0 cap0 zs := by
    obtain ⟨fuel, hf⟩ := h0
    rcases open_ints Try.underlying35 Try.underlying5 (by kernel_rfl) hf with ⟨hcs, _⟩ | ⟨x, l, c, zs, hcs, _, hl, hm, hz, _, hcell, hwz⟩
    · simp [Value.cells] at hcs
      obtain ⟨rfl, rfl, rfl⟩ := hcs
      exact ⟨[], .inl ⟨rfl, rfl, rfl, rfl⟩⟩
    · simp [Value.cells] at hcs
      obtain ⟨rfl, rfl, rfl⟩ := hcs
      exact ⟨zs, .inr ⟨_, rfl, hl, hm, by simpa using hz, hcell, hwz⟩⟩
  clear hA0 hval0
  refine (walk_FnEvalDifference W a0 len0 cap0 z0 w0).mono fun e W' ⟨he, bel⟩ => ?_
  subst he
  exact ⟨_, rfl, _, _, _, [], _, [], hW', trodAll_mk1 (shut_bool Try.underlying4 _), (trodAll_cons_mk (Below.trod laidOut (by kernel_rfl) (of_decide_eq_true (by kernel_rfl)) k0 bel lt0) trodAll_mk0), rfl, bel.frame _, fun h => by cases h⟩

theorem over_FnEvalDifference : Rows.fnEvalDifferenceRow.holds Try.pinned (OpenSpec.ofChange Rows.fnEvalDifferenceSpec) :=
  OpenClaim.holds_of_wide 8 Try.f8 rfl rfl rfl rfl rfl rfl rfl ⟨rfl, rfl, rfl, rfl, rfl⟩ rfl rfl rfl rfl rfl (by kernel_rfl) Try.func8 (by kernel_rfl)
    (of_decide_eq_true (by kernel_rfl)) (by unfold Func.isWrapper; first | (rw [if_pos (by decide +kernel)]; kernel_rfl) | (rw [if_neg (by decide +kernel)]; exact ⟨rfl, rfl⟩))
    (fun os started H enc _ => lifted_FnEvalDifference os started H enc)

theorem fnEvalDifference_proved : Rows.FnEvalDifferenceSaid := over_FnEvalDifference
#print axioms fnEvalDifference_proved
end Go.Proofs.Ytbcmpgagceomgaa
