/- The statement FnAddThree: for all drawn arguments the law holds. -/
import Derived.Test.YtblkhjbakkiphaaDrawCol
import Derived.Test.YtblkhjbakkiphaaColF
import Derived.Test.YtblkhjbakkiphaaColLaws
namespace Go.Proofs.Ytblkhjbakkiphaa
open Go.ChangeShapes Go.WideShapes Go.ChangeAt Go.RowKit

theorem RowB.more {w : World} {B B' : Nat} {A : Option Addr} {m : Nat} (h : RowB w B A m) (hB : B ≤ B') : RowB w B' A m := fun k hk => by
  obtain ⟨b, o, c, e, hlt, hc, h1, h2⟩ := h k hk
  exact ⟨b, o, c, e, by omega, hc, h1, h2⟩
/-- How much longer a string is to become. -/
def toGo (n : Nat) : Value → Nat
  | .string s => n - s.size
  | _ => 0
theorem seven_col {s : ByteArray} (h : colB (bl s) = true) (h2 : s.size < 12) : colB (bl (s ++ ⟨#[55]⟩)) = true := by
  have e : bl (s ++ ⟨#[55]⟩) = bl s ++ [55] := by unfold bl; rw [ByteArray.data_append, Array.toList_append]
  rw [e]
  refine colB_mk ?_ ?_ ?_
  · rw [List.length_append]; show 1 ≤ _ + 1; omega
  · rw [List.length_append, length_bl]; show _ + 1 ≤ 12; omega
  · intro c hc
    rcases List.mem_append.1 hc with hc | hc
    · exact colB_dig h c hc
    · rw [List.mem_singleton.1 hc]; decide
theorem cut_col {s : ByteArray} (h : colB (bl s) = true) (k : Nat) (h1 : 1 ≤ k) (h2 : k ≤ s.size) : colB (bl (s.extract 0 k)) = true ∧ (s.extract 0 k).size = k := by
  have e : bl (s.extract 0 k) = (bl s).take k := by
    unfold bl
    rw [ByteArray.data_extract, Array.toList_extract]
    simp [List.extract]
  have hz := col_size h
  rw [← length_bl, e]
  refine ⟨colB_mk ?_ ?_ (fun c hc => colB_dig h c (List.mem_of_mem_take hc)), ?_⟩
  · rw [List.length_take, length_bl]; omega
  · rw [List.length_take, length_bl]; omega
  · rw [List.length_take, length_bl]; omega

set_option maxHeartbeats 2000000 in
theorem walk_FnAddThree (w : World) (A0 : Option Addr) (n0 cap0 : Nat) (zs0 : List Int) (hz0 : IsRow .u8 w A0 n0 cap0 zs0) (A1 : Option Addr) (n1 cap1 : Nat) (zs1 : List Int) (hz1 : IsRow .u8 w A1 n1 cap1 zs1) :
    Calls Try.prog 6 #[.slice A0 n0 cap0, .slice A1 n1 cap1] w fun e w' => e = .returned (.bool true) ∧ Below w.heap.size w w' := by
  obtain ⟨hr, hc⟩ := hz0.rowB
  obtain ⟨hr1, hc1⟩ := hz1.rowB
  clear hz0 hz1
  by_cases hx : n0 ≤ 1048576
  rotate_left
  · clear hr hr1
    go_enter Try.func6, Try.ntmps6
    go_wp2_with fail
    go_ret
    exact ⟨rfl, Below.refl _ _⟩
  by_cases hx1 : n1 ≤ 1048576
  rotate_left
  · clear hr hr1
    go_enter Try.func6, Try.ntmps6
    go_wp2_with fail
    go_ret
    exact ⟨rfl, Below.refl _ _⟩
  have D := Lib.hid (drawAddColumns_any A0 n0 cap0 w hr hc hx)
  have R1 := Lib.hid hr1
  clear hr hr1
  go_enter Try.func6, Try.ntmps6
  go_wp2_with fail
  refine D.out.mono ?_
  rintro e w1 ⟨a, b, ⟨rfl, ha, hb1⟩, hb⟩
  have D2 := Lib.hid (drawAddColumns_any A1 n1 cap1 w1 ((R1.out.keep hb).more hb.size) hc1 hx1)
  have B := Lib.hid hb; clear hb D R1
  go_wp2_with fail
  refine D2.out.mono ?_
  rintro e w2 ⟨x', x, ⟨rfl, hx', hxs⟩, hb⟩
  have B := Lib.hid (below_two B.out hb); clear hb D2
  have hma : a.size ≤ maxLen := by unfold maxLen; omega
  have hmb : b.size ≤ maxLen := by unfold maxLen; omega
  have hmx : x.size ≤ maxLen := by unfold maxLen; omega
  cases hB : alikeB (bl a) (bl b)
  · have hL : sumL (bl a) (bl b) = [] := by unfold sumL; rw [hB]; rfl
    have C1 := Lib.hid (fun W => add_impl a b W hma hmb)
    rw [hB, hL] at C1
    have C2 := Lib.hid (fun W => add_spec a b W hma hmb)
    rw [hB, hL] at C2
    clear hB hL
    go_wp2_with fail
    refine (C1.out _).mono ?_
    rintro e w' ⟨rfl, hw⟩
    have B := Lib.hid (below_two B.out hw); clear hw
    go_wp2_with fail
    refine (C2.out _).mono ?_
    rintro e w' ⟨rfl, hw⟩
    have B := Lib.hid (below_two B.out hw); clear hw
    go_wp2_with fail
    go_ret
    exact ⟨rfl, B.out⟩
  · obtain ⟨hca, hcb, hl⟩ := alikeB_iff.1 hB
    have C1 := Lib.hid (fun W => add_impl a b W hma hmb)
    rw [hB] at C1
    have C2 := Lib.hid (fun W => add_spec a b W hma hmb)
    rw [hB] at C2
    obtain ⟨s, hs⟩ : ∃ s, s = str (sumL (bl a) (bl b)) := ⟨_, rfl⟩
    have hbl : bl s = sumL (bl a) (bl b) := by rw [hs, bl_str]
    rw [← hs] at C1 C2
    have hcs : colB (bl s) = true := by rw [hbl]; exact (sum_shows hB).col
    have hms := col_max hcs
    cases hX : colB (bl x)
    · skip
      have C3 := Lib.hid (fun W => columnValid_impl x W hmx)
      rw [hX] at C3
      clear hX hB hs hbl hcs hca hcb hl
      go_wp2_with fail
      refine (C1.out _).mono ?_
      rintro e w' ⟨rfl, hw⟩
      have B := Lib.hid (below_two B.out hw); clear hw
      go_wp2_with fail
      refine (C2.out _).mono ?_
      rintro e w' ⟨rfl, hw⟩
      have B := Lib.hid (below_two B.out hw); clear hw
      go_wp2_with fail
      refine (C3.out _).mono ?_
      rintro e w' ⟨rfl, rfl⟩
      go_wp2_with fail
      go_ret
      exact ⟨rfl, B.out⟩
    · skip
      have C3 := Lib.hid (fun W => columnValid_impl x W hmx)
      rw [hX] at C3
      have hza := col_size hca
      have F : Hid (∀ y : ByteArray, colB (bl y) = true → y.size = a.size → alikeB (bl s) (bl y) = true ∧ alikeB (bl b) (bl y) = true ∧ alikeB (bl a) (sumL (bl b) (bl y)) = true ∧ sumL (bl s) (bl y) = sumL (bl a) (sumL (bl b) (bl y))) := by
        refine Lib.hid fun y hy hz => ?_
        rw [hbl]
        exact sum_three hB hy (by rw [length_bl, length_bl]; exact hz)
      have HX := Lib.hid hX
      have hxz := col_size hX
      clear hX hB hs hbl hcs hca hcb hl
      go_wp2_with fail
      refine (C1.out _).mono ?_
      rintro e w' ⟨rfl, hw⟩
      have B := Lib.hid (below_two B.out hw); clear hw
      go_wp2_with fail
      refine (C2.out _).mono ?_
      rintro e w' ⟨rfl, hw⟩
      have B := Lib.hid (below_two B.out hw); clear hw
      go_wp2_with fail
      refine (C3.out _).mono ?_
      rintro e w' ⟨rfl, rfl⟩
      clear C1 C2 C3
      go_wp2_with fail
      go_loop [8] (fun v => ∃ y : ByteArray, v = .string y ∧ Hid (colB (bl y) = true) ∧ y.size ≤ 12) (fun v => toGo a.size v)
      case atStart => exact ⟨x, rfl, HX, hxz.2⟩
      case round =>
        obtain ⟨y, rfl, HY, hy⟩ := hrel
        by_cases hlt : y.size < a.size
        · have hlt' : (y.size : Int) < (a.size : Int) := by omega
          have HY2 := Lib.hid (seven_col HY.out (by omega))
          go_wp2_with fail
          go_round
          case rel => exact ⟨_, rfl, HY2, by rw [ByteArray.size_append]; show _ + 1 ≤ 12; omega⟩
          case measure =>
            show a.size - (y ++ ⟨#[55]⟩).size < a.size - y.size
            rw [ByteArray.size_append]
            show a.size - (_ + 1) < _
            omega
        · have hlt' : ¬ (y.size : Int) < (a.size : Int) := by omega
          obtain ⟨g1, g2⟩ := cut_col HY.out a.size hza.1 (by omega)
          obtain ⟨z, hz⟩ : ∃ z, z = y.extract 0 a.size := ⟨_, rfl⟩
          rw [← hz] at g1 g2
          obtain ⟨k1, k2, k3, k4⟩ := F.out z g1 g2
          have hmz := col_max g1
          obtain ⟨q, hq⟩ : ∃ q, q = str (sumL (bl b) (bl z)) := ⟨_, rfl⟩
          have hbq : bl q = sumL (bl b) (bl z) := by rw [hq, bl_str]
          rw [← hbq] at k3 k4
          have hmq := col_max (alikeB_iff.1 k3).2.1
          have C1 := Lib.hid (fun W => add_impl s z W hms hmz)
          rw [k1] at C1
          have C2 := Lib.hid (fun W => add_impl b z W hmb hmz)
          rw [k2, ← hq] at C2
          have C3 := Lib.hid (fun W => add_impl a q W hma hmq)
          rw [k3, ← k4] at C3
          generalize str (sumL (bl s) (bl z)) = r at *
          clear k1 k2 k3 k4 hq hbq g1 g2
          have HZ := Lib.hid hz; clear hz
          go_wp2_with fail
          rw [← HZ.out]
          go_wp2_with fail
          refine (C1.out _).mono ?_
          rintro e w' ⟨rfl, hw⟩
          have B := Lib.hid (below_two B.out hw); clear hw
          go_wp2_with fail
          refine (C2.out _).mono ?_
          rintro e w' ⟨rfl, hw⟩
          have B := Lib.hid (below_two B.out hw); clear hw
          go_wp2_with fail
          refine (C3.out _).mono ?_
          rintro e w' ⟨rfl, hw⟩
          have B := Lib.hid (below_two B.out hw); clear hw
          go_wp2_with fail
          go_ret
          exact ⟨rfl, B.out⟩

set_option maxRecDepth 100000 in
theorem lifted_FnAddThree (os : Os) (started : os.Started) (H : Type) (enc : TypeId × Value → H) :
    ReturnsInHanded {} Try.checked os 6 .any (Rows.fnAddThreeSpec.pre6 enc Try.prog Try.f6 Rows.fnAddThreeRow.domain false) (Rows.fnAddThreeSpec.post enc Try.prog Try.f6 false true false false) := by
  refine returnsInHanded_of_change (C := Try.checked) own started (by kernel_rfl) Try.func6
    (ChangeSpec.witness6 (enc := enc) (C := Try.checked) false ⟨#[], #[.slice none 0 0, .slice none 0 0], []⟩ 8 (by kernel_rfl) (by kernel_rfl) (by kernel_rfl) (by kernel_rfl)) ?_
  intro W base args ds gs before hval0 hW hcnd _
  have hval : ∀ (j : Nat) t v, Try.f6.params[j]? = some t → args[j]? = some v → Value.okWide Try.prog W .any base t v := hval0
  have hW' := hW
  obtain ⟨p, q, hA0, hV, rfl, hfz, hnd⟩ := hW
  have hA : DataW.TrodAll enc Try.prog W 0 (fun _ => true) true Try.f6.params.toList args.toList ds p := hA0
  rw [Try.params6] at hA hval
  obtain ⟨v0, vs0, d0, ds0, p0, q0, hargs, rfl, rfl, h0, r0⟩ := trodAll_cons hA
  obtain ⟨v1, vs1, d1, ds1, p1, q1, rfl, rfl, rfl, h1, r1⟩ := trodAll_cons r0
  obtain ⟨rfl, rfl, rfl⟩ := trodAll_nil r1
  obtain rfl : args = #[v0, v1] := by cases args; simp_all
  obtain ⟨rfl, rfl⟩ := trodVars_none hV
  obtain ⟨a0, len0, cap0, rfl⟩ := okWide_slice Try.underlying22 (hval 0 22 v0 rfl rfl)
  have k0 := h0
  have lt0 : ∀ x ∈ p0, x.block < W.heap.size := by obtain ⟨m, hm⟩ := k0; exact DataW.trod_lt m _ _ _ hm
  obtain ⟨z0, w0⟩ : ∃ zs, IsRow .u8 W a0 len0 cap0 zs := by
    obtain ⟨fuel, hf⟩ := h0
    rcases open_ints Try.underlying22 Try.underlying5 (by kernel_rfl) hf with ⟨hcs, _⟩ | ⟨x, l, c, zs, hcs, _, hl, hm, hz, _, hcell, hwz⟩
    · simp [Value.cells] at hcs
      obtain ⟨rfl, rfl, rfl⟩ := hcs
      exact ⟨[], .inl ⟨rfl, rfl, rfl, rfl⟩⟩
    · simp [Value.cells] at hcs
      obtain ⟨rfl, rfl, rfl⟩ := hcs
      exact ⟨zs, .inr ⟨_, rfl, hl, hm, by simpa using hz, hcell, hwz⟩⟩
  obtain ⟨a1, len1, cap1, rfl⟩ := okWide_slice Try.underlying22 (hval 1 22 v1 rfl rfl)
  have k1 := h1
  have lt1 : ∀ x ∈ p1, x.block < W.heap.size := by obtain ⟨m, hm⟩ := k1; exact DataW.trod_lt m _ _ _ hm
  obtain ⟨z1, w1⟩ : ∃ zs, IsRow .u8 W a1 len1 cap1 zs := by
    obtain ⟨fuel, hf⟩ := h1
    rcases open_ints Try.underlying22 Try.underlying5 (by kernel_rfl) hf with ⟨hcs, _⟩ | ⟨x, l, c, zs, hcs, _, hl, hm, hz, _, hcell, hwz⟩
    · simp [Value.cells] at hcs
      obtain ⟨rfl, rfl, rfl⟩ := hcs
      exact ⟨[], .inl ⟨rfl, rfl, rfl, rfl⟩⟩
    · simp [Value.cells] at hcs
      obtain ⟨rfl, rfl, rfl⟩ := hcs
      exact ⟨zs, .inr ⟨_, rfl, hl, hm, by simpa using hz, hcell, hwz⟩⟩
  clear hA0 hval0
  refine (walk_FnAddThree W a0 len0 cap0 z0 w0 a1 len1 cap1 z1 w1).mono fun e W' ⟨he, bel⟩ => ?_
  subst he
  exact ⟨_, rfl, _, _, _, [], _, [], hW', trodAll_mk1 (shut_bool Try.underlying4 _), (trodAll_cons_mk (Below.trod laidOut (by kernel_rfl) (of_decide_eq_true (by kernel_rfl)) k0 bel lt0) (trodAll_cons_mk (Below.trod laidOut (by kernel_rfl) (of_decide_eq_true (by kernel_rfl)) k1 bel lt1) trodAll_mk0)), rfl, bel.frame _, fun h => by cases h⟩

theorem over_FnAddThree : Rows.fnAddThreeRow.holds Try.pinned (OpenSpec.ofChange Rows.fnAddThreeSpec) :=
  OpenClaim.holds_of_wide 6 Try.f6 rfl rfl rfl rfl rfl rfl rfl ⟨rfl, rfl, rfl, rfl, rfl⟩ rfl rfl rfl rfl rfl (by kernel_rfl) Try.func6 (by kernel_rfl)
    (of_decide_eq_true (by kernel_rfl)) (by unfold Func.isWrapper; first | (rw [if_pos (by decide +kernel)]; kernel_rfl) | (rw [if_neg (by decide +kernel)]; exact ⟨rfl, rfl⟩))
    (fun os started H enc _ => lifted_FnAddThree os started H enc)

theorem fnAddThree_proved : Rows.FnAddThreeSaid := over_FnAddThree
#print axioms fnAddThree_proved
end Go.Proofs.Ytblkhjbakkiphaa
