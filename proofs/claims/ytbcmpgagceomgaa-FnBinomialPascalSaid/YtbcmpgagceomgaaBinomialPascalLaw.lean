/- The statement FnBinomialPascal: for every drawn argument the law holds. -/
import Derived.Test.YtbcmpgagceomgaaDrawBinom
import Derived.Test.YtbcmpgagceomgaaBinom
import Derived.Test.YtbcmpgagceomgaaPascalPlain
namespace Go.Proofs.Ytbcmpgagceomgaa
open Go.ChangeShapes Go.WideShapes Go.ChangeAt Go.RowKit

theorem chz_out (n : Nat) (j : Nat) : chz (n : Int) (n + 1 + j) = 0 := by
  induction j with
  | zero => rw [Nat.add_zero, chz, Int.sub_self, Int.mul_zero]; exact Int.zero_tdiv _
  | succ j ih => rw [← Nat.add_assoc, chz, ih, Int.zero_mul]; exact Int.zero_tdiv _
theorem chz_low_zero {n : Int} {k : Nat} (h0 : 0 ≤ n) (h1 : n < k) : chz n k = 0 := by
  obtain ⟨m, rfl⟩ := Int.eq_ofNat_of_zero_le h0
  obtain ⟨j, rfl⟩ : ∃ j, k = m + 1 + j := ⟨k - (m + 1), by omega⟩
  exact chz_out m j
theorem IsRow.rowB {w : World} {a : Option Addr} {len cap : Nat} {zs : List Int} (h : IsRow .u8 w a len cap zs) : RowB w w.heap.size a len ∧ len ≤ cap := by
  rcases h with ⟨rfl, rfl, rfl, rfl⟩ | ⟨x, rfl, hl, hm, hz, hcell, hwz⟩
  · exact ⟨fun k hk => absurd hk (by omega), Nat.le_refl _⟩
  · refine ⟨fun k hk => ?_, by omega⟩
    have hc := hcell k (by omega)
    obtain ⟨b, off, spot⟩ := x
    have hspot : spot = none := by
      simpa [Addr.add] using World.cell?_spot (hcell 0 (by omega))
    subst hspot
    have e : (⟨b, off, none⟩ : Addr).add k = ⟨b, off + k, none⟩ := by
      unfold Addr.add; split
      · rename_i h0; subst h0; rfl
      · rfl
    rw [e] at hc
    have hk2 : k < zs.length := by omega
    have hw := hwz zs[k] (List.getElem_mem hk2)
    have hget : zs.getD k 0 = zs[k] := by rw [List.getD_eq_getElem?_getD, List.getElem?_eq_getElem hk2]; rfl
    refine ⟨b, off, zs[k], rfl, ?_, by rw [hc, hget], ?_⟩
    · apply Classical.byContradiction
      intro hn
      unfold World.cell? at hc
      rw [Array.getElem?_eq_none (by show w.heap.size ≤ b; omega)] at hc
      cases hc
    · simp [Lit.wf, IntKind.min, IntKind.max, IntKind.bits, IntKind.signed] at hw
      omega

set_option maxHeartbeats 2000000 in
theorem walk_FnBinomialPascal (w : World) (A0 : Option Addr) (n0 cap0 : Nat) (zs0 : List Int) (hz0 : IsRow .u8 w A0 n0 cap0 zs0) :
    Calls Try.prog 6 #[.slice A0 n0 cap0] w fun e w' => e = .returned (.bool true) ∧ Below w.heap.size w w' := by
  obtain ⟨hr, hc⟩ := hz0.rowB
  clear hz0
  by_cases hx : n0 ≤ 1048576
  rotate_left
  · clear hr
    go_enter Try.func6, Try.ntmps6
    go_wp2_with fail
    go_ret
    exact ⟨rfl, Below.refl _ _⟩
  have C := Lib.hid (drawBinomial_any A0 n0 cap0 w hr hc hx)
  clear hr
  go_enter Try.func6, Try.ntmps6
  go_wp2_with fail
  refine C.out.mono ?_
  rintro e w1 ⟨x, k, ⟨rfl, ⟨x0, x1⟩, k0, k1⟩, hb⟩
  have B := Lib.hid hb; clear hb C
  cases hB : binomB x k
  · have H := Lib.hid hB; clear hB
    go_wp2_with (first | (go_at_call 24; refine (binomial_spec _ _ _).mono ?_; rintro e w' ⟨rfl, rfl⟩; rw [H.out, binomV_no H.out]) | (go_at_call 23; refine (binomial_impl _ _ _).mono ?_; rintro e w' ⟨rfl, rfl⟩; rw [H.out, binomV_no H.out]))
    go_ret
    exact ⟨rfl, B.out⟩
  · have hi := hB
    unfold binomB at hi
    rw [Bool.and_eq_true] at hi
    have i1 := inB_true hi.1
    have i2 := inB_true hi.2
    clear hi
    have H := Lib.hid hB
    by_cases hk : k = 0
    · have hv : binomV x k = 1 := by rw [binomV_yes hB, hk]; rfl
      have V1 := Lib.hid hv; clear hv hB
      subst hk
      go_wp2_with (first | (go_at_call 24; refine (binomial_spec _ _ _).mono ?_; rintro e w' ⟨rfl, rfl⟩; rw [H.out, V1.out]) | (go_at_call 23; refine (binomial_impl _ _ _).mono ?_; rintro e w' ⟨rfl, rfl⟩; rw [H.out, V1.out]))
      go_ret
      exact ⟨rfl, B.out⟩
    · have kb : (k == 0) = false := by simp [hk]
      by_cases hm : x = -200
      · subst hm
        have C1 := Lib.hid (fun W => binomial_spec (-200) k W)
        have C2 := Lib.hid (fun W => binomial_impl (-200) k W)
        rw [hB] at C1 C2
        generalize binomV (-200) k = v at *
        clear hB H
        go_wp2_with (first | (go_at_call 24; refine (C1.out _).mono ?_; rintro e w' ⟨rfl, rfl⟩) | (go_at_call 23; refine (C2.out _).mono ?_; rintro e w' ⟨rfl, rfl⟩))
        go_ret
        exact ⟨rfl, B.out⟩
      · have mbx : (x == -200) = false := by simp [hm]
        have g1 : binomB (x - 1) (k - 1) = true := by unfold binomB; rw [inB_mk (by omega) (by omega), inB_mk (by omega) (by omega)]; rfl
        have g2 : binomB (x - 1) k = true := by unfold binomB; rw [inB_mk (by omega) (by omega), inB_mk (by omega) (by omega)]; rfl
        have hp : binomV x k = binomV (x - 1) (k - 1) + binomV (x - 1) k := by
          rw [binomV_yes hB, binomV_yes g1, binomV_yes g2]
          obtain ⟨i, hi⟩ : ∃ i : Nat, k = (i : Int) + 1 := ⟨(k - 1).toNat, by omega⟩
          have e1 : k.toNat = i + 1 := by omega
          have e2 : (k - 1).toNat = i := by omega
          rw [e1, e2]
          have := pascal (x - 1) i
          rw [Int.sub_add_cancel] at this
          omega
        have hz : 0 ≤ x → x < k → binomV x k = 0 := by
          intro a b
          rw [binomV_yes hB]
          exact chz_low_zero a (by omega)
        have hs : -887503681000000 ≤ binomV (x - 1) (k - 1) ∧ binomV (x - 1) (k - 1) ≤ 887503681000000 := by rw [binomV_yes g1]; exact chz_small _ (by omega) (by omega) _ (by omega)
        have hs2 : -887503681000000 ≤ binomV (x - 1) k ∧ binomV (x - 1) k ≤ 887503681000000 := by rw [binomV_yes g2]; exact chz_small _ (by omega) (by omega) _ (by omega)
        have C1 := Lib.hid (fun W => binomial_spec x k W)
        have C2 := Lib.hid (fun W => binomial_impl x k W)
        have C3 := Lib.hid (fun W => binomial_impl (x - 1) (k - 1) W)
        have C4 := Lib.hid (fun W => binomial_impl (x - 1) k W)
        rw [hB] at C1 C2
        rw [g1] at C3
        rw [g2] at C4
        generalize binomV x k = v at *
        generalize binomV (x - 1) (k - 1) = a at *
        generalize binomV (x - 1) k = b at *
        subst hp
        clear hB H g1 g2
        by_cases c1 : x < 0
        · clear hz
          go_wp2_with fail
          refine (C2.out _).mono ?_
          rintro e w' ⟨rfl, rfl⟩
          go_wp2_with fail
          refine (C1.out _).mono ?_
          rintro e w' ⟨rfl, rfl⟩
          go_wp2_with fail
          refine (C3.out _).mono ?_
          rintro e w' ⟨rfl, rfl⟩
          go_wp2_with fail
          refine (C4.out _).mono ?_
          rintro e w' ⟨rfl, rfl⟩
          go_wp2_with fail
          go_ret
          exact ⟨rfl, B.out⟩
        · by_cases c2 : k ≤ x
          · clear hz
            go_wp2_with fail
            refine (C2.out _).mono ?_
            rintro e w' ⟨rfl, rfl⟩
            go_wp2_with fail
            refine (C1.out _).mono ?_
            rintro e w' ⟨rfl, rfl⟩
            go_wp2_with fail
            refine (C3.out _).mono ?_
            rintro e w' ⟨rfl, rfl⟩
            go_wp2_with fail
            refine (C4.out _).mono ?_
            rintro e w' ⟨rfl, rfl⟩
            go_wp2_with fail
            go_ret
            exact ⟨rfl, B.out⟩
          · have hab := hz (by omega) (by omega)
            have hab2 : (a + b == 0) = true := by simp [hab]
            clear hz
            generalize hv : a + b = v at *
            go_wp2_with fail
            refine (C2.out _).mono ?_
            rintro e w' ⟨rfl, rfl⟩
            go_wp2_with fail
            refine (C1.out _).mono ?_
            rintro e w' ⟨rfl, rfl⟩
            go_wp2_with fail
            refine (C3.out _).mono ?_
            rintro e w' ⟨rfl, rfl⟩
            go_wp2_with fail
            refine (C4.out _).mono ?_
            rintro e w' ⟨rfl, rfl⟩
            go_wp2_with fail
            go_ret
            exact ⟨rfl, B.out⟩

set_option maxRecDepth 100000 in
theorem lifted_FnBinomialPascal (os : Os) (started : os.Started) (H : Type) (enc : TypeId × Value → H) :
    ReturnsInHanded {} Try.checked os 6 .any (Rows.fnBinomialPascalSpec.pre6 enc Try.prog Try.f6 Rows.fnBinomialPascalRow.domain false) (Rows.fnBinomialPascalSpec.post enc Try.prog Try.f6 false true false false) := by
  refine returnsInHanded_of_change (C := Try.checked) own started (by kernel_rfl) Try.func6
    (ChangeSpec.witness6 (enc := enc) (C := Try.checked) false ⟨#[], #[.slice none 0 0], []⟩ 8 (by kernel_rfl) (by kernel_rfl) (by kernel_rfl) (by kernel_rfl)) ?_
  intro W base args ds gs before hval0 hW hcnd _
  have hval : ∀ (j : Nat) t v, Try.f6.params[j]? = some t → args[j]? = some v → Value.okWide Try.prog W .any base t v := hval0
  have hW' := hW
  obtain ⟨p, q, hA0, hV, rfl, hfz, hnd⟩ := hW
  have hA : DataW.TrodAll enc Try.prog W 0 (fun _ => true) true Try.f6.params.toList args.toList ds p := hA0
  rw [Try.params6] at hA hval
  obtain ⟨v0, vs0, d0, ds0, p0, q0, hargs, rfl, rfl, h0, r0⟩ := trodAll_cons hA
  obtain ⟨rfl, rfl, rfl⟩ := trodAll_nil r0
  obtain rfl : args = #[v0] := by cases args; simp_all
  obtain ⟨rfl, rfl⟩ := trodVars_none hV
  obtain ⟨a0, len0, cap0, rfl⟩ := okWide_slice Try.underlying35 (hval 0 35 v0 rfl rfl)
  have k0 := h0
  have lt0 : ∀ x ∈ p0, x.block < W.heap.size := by obtain ⟨m, hm⟩ := k0; exact DataW.trod_lt m _ _ _ hm
  obtain ⟨z0, w0⟩ : ∃ zs, IsRow .u8 W a0 len0 cap0 zs := by
    obtain ⟨fuel, hf⟩ := h0
    rcases open_ints Try.underlying35 Try.underlying5 (by kernel_rfl) hf with ⟨hcs, _⟩ | ⟨x, l, c, zs, hcs, _, hl, hm, hz, _, hcell, hwz⟩
    · simp [Value.cells] at hcs
      obtain ⟨rfl, rfl, rfl⟩ := hcs
      exact ⟨[], .inl ⟨rfl, rfl, rfl, rfl⟩⟩
    · simp [Value.cells] at hcs
      obtain ⟨rfl, rfl, rfl⟩ := hcs
      exact ⟨zs, .inr ⟨_, rfl, hl, hm, by simpa using hz, hcell, hwz⟩⟩
  clear hA0 hval0
  refine (walk_FnBinomialPascal W a0 len0 cap0 z0 w0).mono fun e W' ⟨he, bel⟩ => ?_
  subst he
  exact ⟨_, rfl, _, _, _, [], _, [], hW', trodAll_mk1 (shut_bool Try.underlying4 _), (trodAll_cons_mk (Below.trod laidOut (by kernel_rfl) (of_decide_eq_true (by kernel_rfl)) k0 bel lt0) trodAll_mk0), rfl, bel.frame _, fun h => by cases h⟩

theorem over_FnBinomialPascal : Rows.fnBinomialPascalRow.holds Try.pinned (OpenSpec.ofChange Rows.fnBinomialPascalSpec) :=
  OpenClaim.holds_of_wide 6 Try.f6 rfl rfl rfl rfl rfl rfl rfl ⟨rfl, rfl, rfl, rfl, rfl⟩ rfl rfl rfl rfl rfl (by kernel_rfl) Try.func6 (by kernel_rfl)
    (of_decide_eq_true (by kernel_rfl)) (by unfold Func.isWrapper; first | (rw [if_pos (by decide +kernel)]; kernel_rfl) | (rw [if_neg (by decide +kernel)]; exact ⟨rfl, rfl⟩))
    (fun os started H enc _ => lifted_FnBinomialPascal os started H enc)

theorem fnBinomialPascal_proved : Rows.FnBinomialPascalSaid := over_FnBinomialPascal
#print axioms fnBinomialPascal_proved
end Go.Proofs.Ytbcmpgagceomgaa
