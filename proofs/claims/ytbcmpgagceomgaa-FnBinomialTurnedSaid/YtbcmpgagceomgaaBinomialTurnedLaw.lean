/- The statement FnBinomialTurned: for every drawn argument the law holds. -/
import Derived.Test.YtbcmpgagceomgaaDrawBinom
import Derived.Test.YtbcmpgagceomgaaBinom
import Derived.Test.YtbcmpgagceomgaaPascalPlain
namespace Go.Proofs.Ytbcmpgagceomgaa
open Go.ChangeShapes Go.WideShapes Go.ChangeAt Go.RowKit

/-- The sign of a coefficient at a negative argument. -/
def sg : Nat → Int
  | 0 => 1
  | k + 1 => -sg k
theorem sg_alg {s a b x x' n k : Int} (e1 : (k + 1) * b = a * (n - k)) (ex : x = k - n - 1) (e2 : (k + 1) * x' = (s * a) * (x - k)) : (k + 1) * (x' + s * a) = (k + 1) * (-s * b) := by
  subst ex
  have h1 : (k + 1) * (-s * b) = -s * ((k + 1) * b) := by grind
  rw [h1, e1, Int.mul_add, e2]
  grind
theorem turned (n : Int) (k : Nat) : chz ((k : Int) - n - 1) k = sg k * chz n k := by
  induction k with
  | zero => rfl
  | succ k ih =>
    have hp := pascal ((k : Int) - n - 1) k
    have e1 := (chz_both k).1 n
    have e2 := (chz_both k).1 ((k : Int) - n - 1)
    rw [ih] at e2 hp
    rw [show ((k + 1 : Nat) : Int) - n - 1 = (k : Int) - n - 1 + 1 by omega, hp]
    apply Int.eq_of_mul_eq_mul_left (show (k : Int) + 1 ≠ 0 by omega)
    exact sg_alg e1 rfl e2
theorem sg_par (k : Nat) : sg k = if k % 2 = 0 then 1 else -1 := by
  induction k with
  | zero => rfl
  | succ k ih => rw [sg, ih]; split <;> split <;> omega
theorem binomV_turned {x k : Int} (h : binomB x k = true) (h2 : binomB (k - x - 1) k = true) :
    (k % 2 = 0 → binomV x k = binomV (k - x - 1) k) ∧ (k % 2 = 1 → binomV x k = -binomV (k - x - 1) k) := by
  have hi := h
  unfold binomB at hi
  rw [Bool.and_eq_true] at hi
  have i2 := inB_true hi.2
  rw [binomV_yes h, binomV_yes h2]
  obtain ⟨j, rfl⟩ := Int.eq_ofNat_of_zero_le i2.1
  rw [Int.toNat_natCast, turned, sg_par]
  constructor
  · intro h0; rw [if_pos (by omega), Int.one_mul]
  · intro h0; rw [if_neg (by omega), Int.neg_mul, Int.one_mul, Int.neg_neg]
theorem IsRow.rowB {w : World} {a : Option Addr} {len cap : Nat} {zs : List Int} (h : IsRow .u8 w a len cap zs) : RowB w w.heap.size a len ∧ len ≤ cap := by
  rcases h with ⟨rfl, rfl, rfl, rfl⟩ | ⟨x, rfl, hl, hm, hz, hcell, hwz⟩
  · exact ⟨fun k hk => absurd hk (by omega), Nat.le_refl _⟩
  · refine ⟨fun k hk => ?_, by omega⟩
    have hc := hcell k (by omega)
    obtain ⟨b, off, spot⟩ := x
    have hspot : spot = none := by
      simpa [Addr.add] using World.cell?_spot (hcell 0 (by omega))
    subst hspot
    have e : (⟨b, off, none⟩ : Addr).add k = ⟨b, off + k, none⟩ := by
      unfold Addr.add; split
      · rename_i h0; subst h0; rfl
      · rfl
    rw [e] at hc
    have hk2 : k < zs.length := by omega
    have hw := hwz zs[k] (List.getElem_mem hk2)
    have hget : zs.getD k 0 = zs[k] := by rw [List.getD_eq_getElem?_getD, List.getElem?_eq_getElem hk2]; rfl
    refine ⟨b, off, zs[k], rfl, ?_, by rw [hc, hget], ?_⟩
    · apply Classical.byContradiction
      intro hn
      unfold World.cell? at hc
      rw [Array.getElem?_eq_none (by show w.heap.size ≤ b; omega)] at hc
      cases hc
    · simp [Lit.wf, IntKind.min, IntKind.max, IntKind.bits, IntKind.signed] at hw
      omega

set_option maxHeartbeats 2000000 in
theorem walk_FnBinomialTurned (w : World) (A0 : Option Addr) (n0 cap0 : Nat) (zs0 : List Int) (hz0 : IsRow .u8 w A0 n0 cap0 zs0) :
    Calls Try.prog 7 #[.slice A0 n0 cap0] w fun e w' => e = .returned (.bool true) ∧ Below w.heap.size w w' := by
  obtain ⟨hr, hc⟩ := hz0.rowB
  clear hz0
  by_cases hx : n0 ≤ 1048576
  rotate_left
  · clear hr
    go_enter Try.func7, Try.ntmps7
    go_wp2_with fail
    go_ret
    exact ⟨rfl, Below.refl _ _⟩
  have C := Lib.hid (drawBinomial_any A0 n0 cap0 w hr hc hx)
  clear hr
  go_enter Try.func7, Try.ntmps7
  go_wp2_with fail
  refine C.out.mono ?_
  rintro e w1 ⟨x, k, ⟨rfl, ⟨x0, x1⟩, k0, k1⟩, hb⟩
  have B := Lib.hid hb; clear hb C
  have C1 := Lib.hid (fun W => binomial_spec x k W)
  have C2 := Lib.hid (fun W => binomial_impl x k W)
  cases hB : binomB x k
  · have hv := binomV_no hB
    rw [hB, hv] at C1 C2
    clear hB hv
    go_wp2_with (first | (go_at_call 24; refine (C1.out _).mono ?_; rintro e w' ⟨rfl, rfl⟩) | (go_at_call 23; refine (C2.out _).mono ?_; rintro e w' ⟨rfl, rfl⟩))
    go_ret
    exact ⟨rfl, B.out⟩
  · have hi := hB
    unfold binomB at hi
    rw [Bool.and_eq_true] at hi
    have i1 := inB_true hi.1
    have i2 := inB_true hi.2
    clear hi
    by_cases hn : 0 ≤ x
    · rw [hB] at C1 C2
      generalize binomV x k = v at *
      clear hB
      go_wp2_with (first | (go_at_call 24; refine (C1.out _).mono ?_; rintro e w' ⟨rfl, rfl⟩) | (go_at_call 23; refine (C2.out _).mono ?_; rintro e w' ⟨rfl, rfl⟩))
      go_ret
      exact ⟨rfl, B.out⟩
    · by_cases hm : 200 < k - x - 1
      · rw [hB] at C1 C2
        generalize binomV x k = v at *
        clear hB
        go_wp2_with (first | (go_at_call 24; refine (C1.out _).mono ?_; rintro e w' ⟨rfl, rfl⟩) | (go_at_call 23; refine (C2.out _).mono ?_; rintro e w' ⟨rfl, rfl⟩))
        go_ret
        exact ⟨rfl, B.out⟩
      · have g1 : binomB (k - x - 1) k = true := by unfold binomB; rw [inB_mk (by omega) (by omega), inB_mk (by omega) (by omega)]; rfl
        have ht := binomV_turned hB g1
        have hs : -887503681000000 ≤ binomV (k - x - 1) k ∧ binomV (k - x - 1) k ≤ 887503681000000 := by rw [binomV_yes g1]; exact chz_small _ (by omega) (by omega) _ (by omega)
        have C3 := Lib.hid (fun W => binomial_impl (k - x - 1) k W)
        rw [hB] at C1 C2
        rw [g1] at C3
        generalize binomV x k = v at *
        generalize binomV (k - x - 1) k = u at *
        clear hB g1
        by_cases hp : k % 2 = 0
        · obtain rfl := ht.1 hp
          have p1 : (k % 2 == 0) = true := by simp [hp]
          clear ht hp
          go_wp2_with fail
          refine (C2.out _).mono ?_
          rintro e w' ⟨rfl, rfl⟩
          go_wp2_with fail
          refine (C1.out _).mono ?_
          rintro e w' ⟨rfl, rfl⟩
          go_wp2_with fail
          refine (C3.out _).mono ?_
          rintro e w' ⟨rfl, rfl⟩
          go_wp2_with fail
          go_ret
          exact ⟨rfl, B.out⟩
        · have hp1 : k % 2 = 1 := by omega
          obtain rfl := ht.2 hp1
          have p1 : (k % 2 == 0) = false := by simp [hp1]
          have p2 : (k % 2 == 1) = true := by simp [hp1]
          clear ht hp hp1
          go_wp2_with fail
          refine (C2.out _).mono ?_
          rintro e w' ⟨rfl, rfl⟩
          go_wp2_with fail
          refine (C1.out _).mono ?_
          rintro e w' ⟨rfl, rfl⟩
          go_wp2_with fail
          refine (C3.out _).mono ?_
          rintro e w' ⟨rfl, rfl⟩
          go_wp2_with fail
          go_ret
          exact ⟨rfl, B.out⟩

set_option maxRecDepth 100000 in
theorem lifted_FnBinomialTurned (os : Os) (started : os.Started) (H : Type) (enc : TypeId × Value → H) :
    ReturnsInHanded {} Try.checked os 7 .any (Rows.fnBinomialTurnedSpec.pre6 enc Try.prog Try.f7 Rows.fnBinomialTurnedRow.domain false) (Rows.fnBinomialTurnedSpec.post enc Try.prog Try.f7 false true false false) := by
  refine returnsInHanded_of_change (C := Try.checked) own started (by kernel_rfl) Try.func7
    (ChangeSpec.witness6 (enc := enc) (C := Try.checked) false ⟨#[], #[.slice none 0 0], []⟩ 8 (by kernel_rfl) (by kernel_rfl) (by kernel_rfl) (by kernel_rfl)) ?_
  intro W base args ds gs before hval0 hW hcnd _
  have hval : ∀ (j : Nat) t v, Try.f7.params[j]? = some t → args[j]? = some v → Value.okWide Try.prog W .any base t v := hval0
  have hW' := hW
  obtain ⟨p, q, hA0, hV, rfl, hfz, hnd⟩ := hW
  have hA : DataW.TrodAll enc Try.prog W 0 (fun _ => true) true Try.f7.params.toList args.toList ds p := hA0
  rw [Try.params7] at hA hval
  obtain ⟨v0, vs0, d0, ds0, p0, q0, hargs, rfl, rfl, h0, r0⟩ := trodAll_cons hA
  obtain ⟨rfl, rfl, rfl⟩ := trodAll_nil r0
  obtain rfl : args = #[v0] := by cases args; simp_all
  obtain ⟨rfl, rfl⟩ := trodVars_none hV
  obtain ⟨a0, len0, cap0, rfl⟩ := okWide_slice Try.underlying35 (hval 0 35 v0 rfl rfl)
  have k0 := h0
  have lt0 : ∀ x ∈ p0, x.block < W.heap.size := by obtain ⟨m, hm⟩ := k0; exact DataW.trod_lt m _ _ _ hm
  obtain ⟨z0, w0⟩ : ∃ zs, IsRow .u8 W a0 len0 cap0 zs := by
    obtain ⟨fuel, hf⟩ := h0
    rcases open_ints Try.underlying35 Try.underlying5 (by kernel_rfl) hf with ⟨hcs, _⟩ | ⟨x, l, c, zs, hcs, _, hl, hm, hz, _, hcell, hwz⟩
    · simp [Value.cells] at hcs
      obtain ⟨rfl, rfl, rfl⟩ := hcs
      exact ⟨[], .inl ⟨rfl, rfl, rfl, rfl⟩⟩
    · simp [Value.cells] at hcs
      obtain ⟨rfl, rfl, rfl⟩ := hcs
      exact ⟨zs, .inr ⟨_, rfl, hl, hm, by simpa using hz, hcell, hwz⟩⟩
  clear hA0 hval0
  refine (walk_FnBinomialTurned W a0 len0 cap0 z0 w0).mono fun e W' ⟨he, bel⟩ => ?_
  subst he
  exact ⟨_, rfl, _, _, _, [], _, [], hW', trodAll_mk1 (shut_bool Try.underlying4 _), (trodAll_cons_mk (Below.trod laidOut (by kernel_rfl) (of_decide_eq_true (by kernel_rfl)) k0 bel lt0) trodAll_mk0), rfl, bel.frame _, fun h => by cases h⟩

theorem over_FnBinomialTurned : Rows.fnBinomialTurnedRow.holds Try.pinned (OpenSpec.ofChange Rows.fnBinomialTurnedSpec) :=
  OpenClaim.holds_of_wide 7 Try.f7 rfl rfl rfl rfl rfl rfl rfl ⟨rfl, rfl, rfl, rfl, rfl⟩ rfl rfl rfl rfl rfl (by kernel_rfl) Try.func7 (by kernel_rfl)
    (of_decide_eq_true (by kernel_rfl)) (by unfold Func.isWrapper; first | (rw [if_pos (by decide +kernel)]; kernel_rfl) | (rw [if_neg (by decide +kernel)]; exact ⟨rfl, rfl⟩))
    (fun os started H enc _ => lifted_FnBinomialTurned os started H enc)

theorem fnBinomialTurned_proved : Rows.FnBinomialTurnedSaid := over_FnBinomialTurned
#print axioms fnBinomialTurned_proved
end Go.Proofs.Ytbcmpgagceomgaa
