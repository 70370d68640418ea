/- The statement FnExactDiffTable: for all arguments the program's DiffTable returns what the reference's returns, in memory of its own, and leaves its arguments alone. No conditions. -/
import Derived.Test.YtbcmpgagceomgaaDiffTab
namespace Go.Proofs.Ytbcmpgagceomgaa
open Go.ChangeShapes Go.WideShapes Go.ChangeAt Go.RowKit

/-- Lists of lists that are alive in the law's walk. -/
def HasN (B0 : Nat) (w : World) (lo hi : Nat) (v : Value) (es : List Ent) : Prop := Nest w lo hi v es ∧ hi ≤ w.heap.size ∧ B0 ≤ lo
theorem HasN.next {B0 lo hi : Nat} {w w' : World} {v : Value} {es : List Ent} (h : HasN B0 w lo hi v es) (hb : Below w.heap.size w w') : HasN B0 w' lo hi v es :=
  ⟨h.1.below hb h.2.1, Nat.le_trans h.2.1 hb.size, h.2.2⟩

theorem HasN.grown {B0 lo hi lo2 hi2 : Nat} {w w' : World} {v v2 : Value} {es : List Ent} {xs2 : List Int} (h : HasN B0 w lo hi v es) (hg : w.grownBy w' v2.ownBlock) (h2 : Has B0 w lo2 hi2 v2 xs2) (hsep : hi ≤ lo2 ∨ hi2 ≤ lo) : HasN B0 w' lo hi v es :=
  ⟨h.1.grown hg h2.1 hsep h.2.1, Nat.le_trans h.2.1 hg.size, h.2.2⟩
theorem GivesN.at_ {w w' : World} {xss : List (List Int)} {e : Ending} (h : GivesN w xss e w') (B0 : Nat) (hB : B0 ≤ w.heap.size) (m : Nat) (hm : m = xss.length) : ∃ A cap es, e = .returned (.slice A m cap) ∧ es.map Ent.xs = xss ∧ HasN B0 w' w.heap.size w'.heap.size (.slice A m cap) es ∧ Below w.heap.size w w' := by
  obtain ⟨A, n, cap, es, rfl, hn, hx, ho, hb⟩ := h
  have : n = m := by rw [hm, ← hx, List.length_map]; exact hn
  subst this
  exact ⟨A, cap, es, rfl, hx, ⟨ho, Nat.le_refl _, hB⟩, hb⟩
theorem eqSS {A A' : Option Addr} {m cap cap' lo hi lo' hi' B0 : Nat} {es es' : List Ent} {w : World} {xs : List Int} (h : HasN B0 w lo hi (.slice A m cap) es) (h' : HasN B0 w lo' hi' (.slice A' m cap') es') (hx : es.map Ent.xs = tabP xs) (hx' : es'.map Ent.xs = tabP xs) :
    Calls Try.prog 17 #[.slice A m cap, .slice A' m cap'] w fun e w' => e = .returned (.bool true) ∧ Calm w w' := by
  have hT := tab_rows hx
  have hl := h.1.len
  exact eqIntSS_any A A' m cap cap' lo hi lo' hi' es es' w h.1 h'.1 h.2.1 h'.2.1 (hx.trans hx'.symm) (by omega) (fun e he => Nat.le_trans (hT.2.1 e he) (by decide))

set_option maxHeartbeats 4000000 in
theorem walk_FnExactDiffTable (w : World) (A0 : Option Addr) (n0 cap0 : Nat) (zs0 : List Int) (hz0 : IsRow .i64 w A0 n0 cap0 zs0) :
    Calls Try.prog 4 #[.slice A0 n0 cap0] w fun e w' => e = .returned (.bool true) ∧ Below w.heap.size w w' := by
  obtain ⟨xs0, hn0, hr0, _⟩ := hz0.row
  clear hz0
  have R0 := Lib.hid hr0; clear hr0
  by_cases hx0 : n0 ≤ 1048576
  rotate_left
  · clear hn0
    go_enter Try.func4, Try.ntmps4
    go_wp2_with fail
    go_ret
    exact ⟨rfl, Below.refl _ _⟩
  obtain ⟨m, hm⟩ : ∃ m, m = (tabP xs0).length := ⟨_, rfl⟩
  have M := Lib.hid hm; clear hm
  subst hn0
  go_enter Try.func4, Try.ntmps4
  go_wp2_with fail
  refine (toIntS_any A0 cap0 xs0 _ R0.out hx0).mono ?_
  rintro e w1 ⟨A_a, c_a, rfl, ho1, hb1⟩
  have H_a := Lib.hid (Has.new (B0 := w.heap.size) ho1 (Nat.le_refl _)); have B1 := Lib.hid hb1; clear ho1 hb1
  go_wp2_with fail
  refine (diffTable_spec A_a _ c_a xs0 _ H_a.out.row rfl (by omega)).mono ?_
  rintro e w2 hgv
  obtain ⟨A_r, c_r, es_r, rfl, xr, ho2, hb2⟩ := hgv.at_ w.heap.size B1.out.size m M.out
  have X_r := Lib.hid xr; have H_r := Lib.hid ho2; have B2 := Lib.hid (B1.out.trans (hb2.mono B1.out.size)); clear ho2 hb2 xr H_a hgv
  go_wp2_with fail
  refine (toIntS_any A0 cap0 xs0 _ (R0.out.still B2.out) hx0).mono ?_
  rintro e w3 ⟨A_x, c_x, rfl, ho3, hb3⟩
  have H_x := Lib.hid (Has.new (B0 := w.heap.size) ho3 B2.out.size); have S3 := Lib.hid hb3.size; have t := Lib.hid (H_r.out.next hb3); clear H_r; have H_r := t; clear t; have B3 := Lib.hid (B2.out.trans (hb3.mono B2.out.size)); clear ho3 hb3
  go_wp2_with fail
  refine (diffTable_impl A_x _ c_x xs0 _ H_x.out.row rfl (by omega)).mono ?_
  rintro e w4 hgv
  obtain ⟨A_g, c_g, es_g, rfl, xg, ho4, hb4⟩ := hgv.at_ w.heap.size B3.out.size m M.out
  have T := Lib.hid (tab_rows xg); have X_g := Lib.hid xg; have H_g := Lib.hid ho4; have S4 := Lib.hid hb4.size; have t := Lib.hid (H_r.out.next hb4); clear H_r; have H_r := t; clear t; have t := Lib.hid (H_x.out.next hb4); clear H_x; have H_x := t; clear t; have B4 := Lib.hid (B3.out.trans (hb4.mono B3.out.size)); clear ho4 hb4 xg hgv
  go_wp2_with fail
  refine (eqSS H_g.out H_r.out X_g.out X_r.out).mono ?_
  rintro e w5 ⟨rfl, hk5⟩
  have hb5 := hk5.to
  have t := Lib.hid (H_r.out.next hb5); clear H_r; have H_r := t; clear t; have t := Lib.hid (H_x.out.next hb5); clear H_x; have H_x := t; clear t; have t := Lib.hid (H_g.out.next hb5); clear H_g; have H_g := t; clear t; have B5 := Lib.hid (B4.out.trans (hb5.mono B4.out.size)); clear hb5 hk5
  go_wp2_with fail
  refine (toIntS_any A0 cap0 xs0 _ (R0.out.still B5.out) hx0).mono ?_
  rintro e w6 ⟨A_t, c_t, rfl, ho6, hb6⟩
  have H_t := Lib.hid (Has.new (B0 := w.heap.size) ho6 B5.out.size); have t := Lib.hid (H_r.out.next hb6); clear H_r; have H_r := t; clear t; have t := Lib.hid (H_x.out.next hb6); clear H_x; have H_x := t; clear t; have t := Lib.hid (H_g.out.next hb6); clear H_g; have H_g := t; clear t; have B6 := Lib.hid (B5.out.trans (hb6.mono B5.out.size)); clear ho6 hb6
  go_wp2_with fail
  refine (eqIntS_any A_x A_t c_x c_t xs0 xs0 _ _ _ (Nat.le_refl _) (Nat.le_refl _) H_x.out.row H_t.out.row (Nat.le_trans hx0 (by decide)) (Nat.le_trans hx0 (by decide))).mono ?_
  rw [eqB_refl]
  rintro e w7 ⟨rfl, hk7⟩
  have hb7 := hk7.to
  have t := Lib.hid (H_r.out.next hb7); clear H_r; have H_r := t; clear t; have t := Lib.hid (H_x.out.next hb7); clear H_x; have H_x := t; clear t; have t := Lib.hid (H_g.out.next hb7); clear H_g; have H_g := t; clear t; have B7 := Lib.hid (B6.out.trans (hb7.mono B6.out.size)); clear hb7 hk7 H_t
  go_wp2_with fail
  refine (markIntS_any A_x _ c_x xs0 1 _ _ _ rfl H_x.out.1 (Nat.le_trans hx0 (by decide)) (by omega) (by omega)).mono ?_
  rintro e w8 ⟨rfl, ho8, hg8⟩
  have B8 := Lib.hid (H_x.out.below B7.out hg8); have t := Lib.hid (H_r.out.grown hg8 H_x.out (.inl (Nat.le_refl _))); clear H_r; have H_r := t; clear t; have t := Lib.hid (H_g.out.grown hg8 H_x.out (.inr (Nat.le_refl _))); clear H_g; have H_g := t; clear t; clear ho8 hg8 H_x
  go_wp2_with fail
  refine (eqSS H_g.out H_r.out X_g.out X_r.out).mono ?_
  rintro e w9 ⟨rfl, hk9⟩
  have hb9 := hk9.to
  have t := Lib.hid (H_r.out.next hb9); clear H_r; have H_r := t; clear t; have t := Lib.hid (H_g.out.next hb9); clear H_g; have H_g := t; clear t; have B9 := Lib.hid (B8.out.trans (hb9.mono B8.out.size)); clear hb9 hk9
  go_wp2_with fail
  have hmm : m ≤ 1000000 := by have := H_g.out.1.len; have := T.out.1; omega
  refine (markIntSS_any A_g _ c_g _ _ es_g 1 _ H_g.out.1 hmm (Nat.le_trans T.out.2.2 (by decide)) (by decide) (by decide)).mono ?_
  rintro e w10 ⟨rfl, ho10, hg10, hs10⟩
  have B10 := Lib.hid (B9.out.trans (hg10 _ B3.out.size B9.out.size)); have hb10 := hg10 _ (Nat.le_refl _) (Nat.le_trans S4.out (H_g.out.2.1)); have t := Lib.hid (show HasN w.heap.size w10 _ _ _ _ from ⟨H_r.out.1.below hb10 S3.out, Nat.le_trans H_r.out.2.1 hs10, H_r.out.2.2⟩); clear H_r; have H_r := t; clear t; have M_g := Lib.hid (show HasN w.heap.size w10 _ _ _ _ from ⟨ho10, Nat.le_trans H_g.out.2.1 hs10, H_g.out.2.2⟩); clear H_g; have H_g := M_g; clear M_g ho10 hg10 hs10 hb10
  have ht := T.out.2.2
  generalize hTG : total es_g = tg at *
  have HTG := Lib.hid hTG; clear hTG
  go_wp2_with fail
  have HS := Lib.hid (fun W h => heldIntSS_any A_g m c_g w3.heap.size w4.heap.size es_g 1 W h hmm (by rw [HTG.out]; omega) (by decide) (by decide))
  rw [HTG.out] at HS
  refine (HS.out _ H_g.out.1).mono ?_
  rintro e w' ⟨rfl, rfl⟩
  go_wp2_with fail
  refine (toIntS_any A0 cap0 xs0 _ (R0.out.still B10.out) hx0).mono ?_
  rintro e w11 ⟨A_a, c_a, rfl, ho11, hb11⟩
  have H_a := Lib.hid (Has.new (B0 := w.heap.size) ho11 B10.out.size); have t := Lib.hid (H_r.out.next hb11); clear H_r; have H_r := t; clear t; have t := Lib.hid (H_g.out.next hb11); clear H_g; have H_g := t; clear t; have B11 := Lib.hid (B10.out.trans (hb11.mono B10.out.size)); clear ho11 hb11
  go_wp2_with fail
  refine (diffTable_impl A_a _ c_a xs0 _ H_a.out.row rfl (by omega)).mono ?_
  rintro e w12 hgv
  obtain ⟨A_h, c_h, es_h, rfl, xh, ho12, hb12⟩ := hgv.at_ w.heap.size B11.out.size m M.out
  have X_h := Lib.hid xh; have H_h := Lib.hid ho12; have t := Lib.hid (H_r.out.next hb12); clear H_r; have H_r := t; clear t; have t := Lib.hid (H_g.out.next hb12); clear H_g; have H_g := t; clear t; have B12 := Lib.hid (B11.out.trans (hb12.mono B11.out.size)); clear ho12 hb12 xh hgv H_a
  go_wp2_with fail
  refine (eqSS H_h.out H_r.out X_h.out X_r.out).mono ?_
  rintro e w13 ⟨rfl, hk13⟩
  have hb13 := hk13.to
  have t := Lib.hid (H_g.out.next hb13); clear H_g; have H_g := t; clear t; have B13 := Lib.hid (B12.out.trans (hb13.mono B12.out.size)); clear hb13 hk13
  go_wp2_with fail
  refine (HS.out _ H_g.out.1).mono ?_
  rintro e w' ⟨rfl, rfl⟩
  go_wp2_with fail
  go_ret
  exact ⟨rfl, B13.out⟩

set_option maxRecDepth 100000 in
theorem lifted_FnExactDiffTable (os : Os) (started : os.Started) (H : Type) (enc : TypeId × Value → H) :
    ReturnsInHanded {} Try.checked os 4 .any (Rows.fnExactDiffTableSpec.pre6 enc Try.prog Try.f4 Rows.fnExactDiffTableRow.domain false) (Rows.fnExactDiffTableSpec.post enc Try.prog Try.f4 false true false false) := by
  refine returnsInHanded_of_change (C := Try.checked) own started (by kernel_rfl) Try.func4
    (ChangeSpec.witness6 (enc := enc) (C := Try.checked) false ⟨#[], #[.slice none 0 0], []⟩ 8 (by kernel_rfl) (by kernel_rfl) (by kernel_rfl) (by kernel_rfl)) ?_
  intro W base args ds gs before hval0 hW hcnd _
  have hval : ∀ (j : Nat) t v, Try.f4.params[j]? = some t → args[j]? = some v → Value.okWide Try.prog W .any base t v := hval0
  have hW' := hW
  obtain ⟨p, q, hA0, hV, rfl, hfz, hnd⟩ := hW
  have hA : DataW.TrodAll enc Try.prog W 0 (fun _ => true) true Try.f4.params.toList args.toList ds p := hA0
  rw [Try.params4] at hA hval
  obtain ⟨v0, vs0, d0, ds0, p0, q0, hargs, rfl, rfl, h0, r0⟩ := trodAll_cons hA
  obtain ⟨rfl, rfl, rfl⟩ := trodAll_nil r0
  obtain rfl : args = #[v0] := by cases args; simp_all
  obtain ⟨rfl, rfl⟩ := trodVars_none hV
  obtain ⟨a0, len0, cap0, rfl⟩ := okWide_slice Try.underlying22 (hval 0 22 v0 rfl rfl)
  have k0 := h0
  have lt0 : ∀ x ∈ p0, x.block < W.heap.size := by obtain ⟨m, hm⟩ := k0; exact DataW.trod_lt m _ _ _ hm
  obtain ⟨z0, w0⟩ : ∃ zs, IsRow .i64 W a0 len0 cap0 zs := by
    obtain ⟨fuel, hf⟩ := h0
    rcases open_ints Try.underlying22 Try.underlying3 (by kernel_rfl) hf with ⟨hcs, _⟩ | ⟨x, l, c, zs, hcs, _, hl, hm, hz, _, hcell, hwz⟩
    · simp [Value.cells] at hcs
      obtain ⟨rfl, rfl, rfl⟩ := hcs
      exact ⟨[], .inl ⟨rfl, rfl, rfl, rfl⟩⟩
    · simp [Value.cells] at hcs
      obtain ⟨rfl, rfl, rfl⟩ := hcs
      exact ⟨zs, .inr ⟨_, rfl, hl, hm, by simpa using hz, hcell, hwz⟩⟩
  clear hA0 hval0
  refine (walk_FnExactDiffTable W a0 len0 cap0 z0 w0).mono fun e W' ⟨he, bel⟩ => ?_
  subst he
  exact ⟨_, rfl, _, _, _, [], _, [], hW', trodAll_mk1 (shut_bool Try.underlying4 _), (trodAll_cons_mk (Below.trod laidOut (by kernel_rfl) (of_decide_eq_true (by kernel_rfl)) k0 bel lt0) trodAll_mk0), rfl, bel.frame _, fun h => by cases h⟩

theorem over_FnExactDiffTable : Rows.fnExactDiffTableRow.holds Try.pinned (OpenSpec.ofChange Rows.fnExactDiffTableSpec) :=
  OpenClaim.holds_of_wide 4 Try.f4 rfl rfl rfl rfl rfl rfl rfl ⟨rfl, rfl, rfl, rfl, rfl⟩ rfl rfl rfl rfl rfl (by kernel_rfl) Try.func4 (by kernel_rfl)
    (of_decide_eq_true (by kernel_rfl)) (by unfold Func.isWrapper; first | (rw [if_pos (by decide +kernel)]; kernel_rfl) | (rw [if_neg (by decide +kernel)]; exact ⟨rfl, rfl⟩))
    (fun os started H enc _ => lifted_FnExactDiffTable os started H enc)

theorem fnExactDiffTable_proved : Rows.FnExactDiffTableSaid := over_FnExactDiffTable
#print axioms fnExactDiffTable_proved
end Go.Proofs.Ytbcmpgagceomgaa
