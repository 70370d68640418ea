/- The walks of both texts of DiffTable: a table and its differences, row by row. -/
import Derived.Test.YtbcmpgagceomgaaNestLaws
namespace Go.Proofs.Ytbcmpgagceomgaa
open Go.RowKit

/-- A list, its differences, and so on: all of them that hold a number. -/
def tabF : Nat → List Int → List (List Int)
  | 0, _ => []
  | f + 1, xs => xs :: tabF f (nextD xs)
def tab (xs : List Int) : List (List Int) := tabF xs.length xs
theorem tab_nil : tab [] = [] := rfl
theorem tab_cons {xs : List Int} (h : 0 < xs.length) : tab xs = xs :: tab (nextD xs) := by
  obtain ⟨n, hn⟩ : ∃ n, xs.length = n + 1 := ⟨xs.length - 1, by omega⟩
  unfold tab
  rw [nextD_length, hn]
  rfl
theorem tab_length (xs : List Int) : (tab xs).length = xs.length := by
  have : ∀ (f : Nat) (xs : List Int), (tabF f xs).length = f := by
    intro f
    induction f with
    | zero => intro xs; rfl
    | succ f ih => intro xs; simp [tabF, ih]
  exact this _ _
theorem tab_short (xs : List Int) : ∀ r ∈ tab xs, r.length ≤ xs.length := by
  have : ∀ (f : Nat) (xs : List Int), ∀ r ∈ tabF f xs, r.length ≤ xs.length := by
    intro f
    induction f with
    | zero => intro xs r hr; simp [tabF] at hr
    | succ f ih =>
      intro xs r hr
      rcases List.mem_cons.1 hr with rfl | hr
      · exact Nat.le_refl _
      · have := ih (nextD xs) r hr
        rw [nextD_length] at this
        omega
  exact this _ _
def tabP (xs : List Int) : List (List Int) := if shortB xs = true then tab xs else []
theorem tabP_yes {xs : List Int} (h : shortB xs = true) : tabP xs = tab xs := if_pos h
theorem tabP_no {xs : List Int} (h : shortB xs = false) : tabP xs = [] := by unfold tabP; rw [h]; rfl
theorem tabP_bd (xs : List Int) : (tabP xs).length ≤ 30 ∧ ∀ r ∈ tabP xs, r.length ≤ 30 := by
  cases h : shortB xs
  · rw [tabP_no h]; exact ⟨by simp, fun r hr => by cases hr⟩
  · rw [tabP_yes h, tab_length]
    have := (short_parts h).2
    exact ⟨this, fun r hr => Nat.le_trans (tab_short xs r hr) this⟩
theorem total_bd (es : List Ent) (h : ∀ e ∈ es, e.xs.length ≤ 30) : total es ≤ 30 * es.length := by
  induction es with
  | nil => simp [total]
  | cons e r ih =>
    have h1 := h e (by simp)
    have h2 := ih (fun e' he' => h e' (List.mem_cons_of_mem _ he'))
    simp only [total, List.length_cons]
    omega
/-- The rows of a list of lists that holds a table's differences are few and short. -/
theorem tab_rows {xs : List Int} {es : List Ent} (h : es.map Ent.xs = tabP xs) : es.length ≤ 30 ∧ (∀ e ∈ es, e.xs.length ≤ 30) ∧ total es ≤ 1000 := by
  obtain ⟨h1, h2⟩ := tabP_bd xs
  rw [← h] at h1 h2
  have h1' : es.length ≤ 30 := by simpa using h1
  have h3 : ∀ e ∈ es, e.xs.length ≤ 30 := fun e he => h2 _ (List.mem_map_of_mem he)
  have := total_bd es h3
  exact ⟨h1', h3, by omega⟩

/-- What a function that makes a list of lists of its own leaves. -/
def GivesN (w : World) (xss : List (List Int)) (e : Ending) (w' : World) : Prop :=
  ∃ A n cap es, e = .returned (.slice A n cap) ∧ n = es.length ∧ es.map Ent.xs = xss ∧ Nest w' w.heap.size w'.heap.size (.slice A n cap) es ∧ Below w.heap.size w w'

/-- The state of the loop: the rows of es are done, row is to come. -/
def Tabs (w : World) (xs : List Int) (v r : Value) (wr : World) : Prop :=
  ∃ (es : List Ent) (row : List Int) (K : Int) (n2 c2 : Nat) (A2 : Option Addr) (m1 c1 : Nat) (A1 : Option Addr) (lo2 : Nat), r = .slice A2 n2 c2 ∧ v = .slice A1 m1 c1 ∧ n2 = row.length ∧ m1 = es.length ∧ es.map Ent.xs ++ tab row = tab xs ∧
    Nest wr w.heap.size wr.heap.size (.slice A1 m1 c1) es ∧ Own wr lo2 wr.heap.size (.slice A2 n2 c2) row ∧ w.heap.size ≤ lo2 ∧ (∀ e ∈ es, e.g < lo2) ∧ n2 ≤ 1000 ∧ m1 + n2 ≤ 1000 ∧ K * 2 ^ n2 ≤ 16000000000000000000 ∧ 0 ≤ K ∧ (∀ x ∈ row, -K ≤ x ∧ x ≤ K) ∧ Below w.heap.size w wr

theorem tabs_step {w w3 w4 : World} {xs row : List Int} {es : List Ent} {K : Int} {n2 m1 c2 c3 c4 g : Nat} {A3 A4 : Option Addr} (hp : 0 < n2) (e2 : n2 = row.length) (e1 : m1 = es.length) (ef : es.map Ent.xs ++ tab row = tab xs)
    (h1000 : n2 ≤ 1000) (hs : m1 + n2 ≤ 1000) (hK : K * 2 ^ n2 ≤ 16000000000000000000) (hK0 : 0 ≤ K) (hbd : ∀ x ∈ row, -K ≤ x ∧ x ≤ K) (hw : Below w.heap.size w w3)
    (ho3 : Nest w3 w.heap.size w3.heap.size (.slice A3 (m1 + 1) c3) (es ++ [⟨g, c2, row⟩])) (ho4 : Own w4 w3.heap.size w4.heap.size (.slice A4 (n2 - 1) c4) (nextD row)) (hb4 : Below w3.heap.size w3 w4) :
    Tabs w xs (.slice A3 (m1 + 1) c3) (.slice A4 (n2 - 1) c4) w4 := by
  obtain ⟨k, rfl⟩ : ∃ k, n2 = k + 1 := ⟨n2 - 1, by omega⟩
  refine ⟨es ++ [⟨g, c2, row⟩], nextD row, 2 * K, k + 1 - 1, c4, A4, m1 + 1, c3, A3, w3.heap.size, rfl, rfl, by rw [nextD_length, ← e2], by rw [List.length_append, e1]; rfl, ?_, (ho3.below hb4 (Nat.le_refl _)).loosen (Nat.le_refl _) hb4.size, ho4, hw.size, fun e he => ?_, by omega, by omega, ?_, by omega, nextD_bd hbd, hw.trans (hb4.mono hw.size)⟩
  · rw [← ef, tab_cons (xs := row) (by omega), List.map_append, List.append_assoc]
    rfl
  · exact (ho3.rows e he).1.2 e.g rfl
  · rw [Nat.add_sub_cancel, Int.mul_comm 2 K, Int.mul_assoc, Int.mul_comm 2, ← Int.pow_succ]
    exact hK

set_option maxHeartbeats 2000000 in
theorem diffTable_impl (A : Option Addr) (n cap : Nat) (xs : List Int) (w : World) (hr : Row w w.heap.size A xs) (hn : n = xs.length) (hx : n ≤ 10000000) :
    Calls Try.prog 16 #[.slice A n cap] w (GivesN w (tabP xs)) := by
  cases h : tableB xs
  · rw [tabP_no (by unfold shortB; rw [h]; rfl)]
    have N := Lib.hid hn; have R := Lib.hid hr; have H := Lib.hid h; clear hn hr h
    go_enter Try.func16, Try.ntmps16
    go_wp2_with (go_at_call 40; refine (tvI _ _ _ xs _ _ R.out N.out hx).mono ?_; rintro e w' ⟨rfl, rfl⟩; rw [H.out])
    go_ret
    exact ⟨_, _, _, [], rfl, rfl, rfl, Nest.nil _ _ _, Below.refl _ _⟩
  · by_cases h30 : n ≤ 30
    rotate_left
    · rw [tabP_no (by unfold shortB; rw [h, decide_eq_false (by omega)]; rfl)]
      have h30' : (30 : Int) < (n : Int) := by omega
      have N := Lib.hid hn; have R := Lib.hid hr; have H := Lib.hid h; clear hn hr h
      go_enter Try.func16, Try.ntmps16
      go_wp2_with (go_at_call 40; refine (tvI _ _ _ xs _ _ R.out N.out hx).mono ?_; rintro e w' ⟨rfl, rfl⟩; rw [H.out])
      go_ret
      exact ⟨_, _, _, [], rfl, rfl, rfl, Nest.nil _ _ _, Below.refl _ _⟩
    · have hsh : shortB xs = true := by unfold shortB; rw [h, decide_eq_true (by omega)]; rfl
      rw [tabP_yes hsh]
      have hp1 := (table_len h).1
      obtain ⟨b, o, rfl, hb, hc0⟩ := hr 0 (by omega)
      have hmk := make_roomL n (by omega)
      have h30' : ¬ (30 : Int) < (n : Int) := by omega
      have BD := Lib.hid (table_bd h)
      have hr2 := hr.keep ((Below.refl w.heap.size w).alloc (Nat.le_refl _) (.cells (cL n) 22))
      have N := Lib.hid hn; have R := Lib.hid hr; have R2 := Lib.hid hr2; have H := Lib.hid h; clear hn hr h hr2 hc0 hp1 hb
      have V0 := Lib.hid ((Below.refl w.heap.size w).alloc (Nat.le_refl _) (.cells (cL n) 22))
      go_enter Try.func16, Try.ntmps16
      go_wp2_with (first | (go_at_call 40; refine (tvI _ _ _ xs _ _ R.out N.out hx).mono ?_; rintro e w' ⟨rfl, rfl⟩; rw [H.out]) | (go_at_call 41; refine (clone_any b o n cap xs _ w.heap.size R2.out V0.out.size N.out (by omega)).mono ?_; rintro e w1 ⟨A1, c1, rfl, o1, b1⟩; have O1 := Lib.hid o1; have B1 := Lib.hid b1; clear o1 b1))
      go_loopw [3, 4] (fun v r wr => Tabs w xs v r wr) (fun _ r _ => lenOf r)
      case atStart => exact ⟨[], xs, 1000000000, _, c1, A1, 0, n, _, _, rfl, rfl, rfl, rfl, rfl, ((Nest.room w n (by omega)).below B1.out (Nat.le_refl _)).loosen (Nat.le_refl _) B1.out.size, O1.out, V0.out.size, (fun e he => by cases he), by have := N.out; omega, by have := N.out; omega, pow30 (by have := N.out; omega), by decide, BD.out, V0.out.trans (B1.out.mono V0.out.size)⟩
      case round =>
        clear hmk
        obtain ⟨es, row, K, n2, c2, A2, m1, c3, A3, lo2, rfl, rfl, e2, e1, ef, ho, hrow, hlo2, hlt, h1000, hs, hK, hK0, hbd, hw⟩ := hrel
        by_cases hp : 0 < n2
        · obtain ⟨g, rfl, hg1, hg2, hg3⟩ := hrow.addr hp
          clear hg3
          have hp' : (0 : Int) < (n2 : Int) := by omega
          have bd : 2 ≤ n2 → ∀ x ∈ row, -4000000000000000000 ≤ x ∧ x ≤ 4000000000000000000 := fun h2 => first_bd h2 hK hK0 hbd
          have wa : Below wr.heap.size wr (wr.alloc (.cells #[.slice (some ⟨g, 0, none⟩) n2 c2] 22)) := (Below.refl wr.heap.size wr).alloc (Nat.le_refl _) _
          have hu : (wr.alloc (.cells #[.slice (some ⟨g, 0, none⟩) n2 c2] 22)).cell? ⟨wr.heap.size, 0, none⟩ = some (.slice (some ⟨g, 0, none⟩) n2 c2) := by rw [World.cell?_alloc_at _ _ _ _ rfl]; rfl
          have oa := (ho.below wa (Nat.le_refl _)).loosen (Nat.le_refl _) wa.size
          have ra := (hrow.below wa (Nat.le_refl _)).loosen (Nat.le_refl _) wa.size
          have hltg : ∀ e ∈ es, e.g < g := fun e he => Nat.lt_of_lt_of_le (hlt e he) hg1
          have PU := Lib.hid (fun w' v' => oa.push (w' := w') (v' := v') ra e2 hp hltg hlo2 (Nat.le_refl _))
          have ST := Lib.hid (fun w3 w4 A3 c3 A4 c4 => tabs_step (w := w) (w3 := w3) (w4 := w4) (A3 := A3) (c3 := c3) (A4 := A4) (c4 := c4) (g := g) (c2 := c2) hp e2 e1 ef h1000 hs hK hK0 hbd)
          have O := Lib.hid oa; have HR := Lib.hid ra; have BDR := Lib.hid bd; have V := Lib.hid (hw.trans (wa.mono hw.size)); have E1 := Lib.hid e1; have E2 := Lib.hid e2; have U := Lib.hid hu
          clear e1 e2 ef ho hrow hK hbd bd hw wa oa ra hlt hltg hg1 hg2 hu hlo2
          go_wp2_with (at_builtin; refine wpList_appL rfl _ _ rfl rfl O.out.outer V.out.size rfl U.out rfl (by have := E1.out; omega) (m1 + 1) (by rw [E1.out]) ?_; intro A4 c4 w3 ho3 hg3; have O3 := Lib.hid ho3; have G3 := Lib.hid hg3; clear ho3 hg3)
          have V3 := Lib.hid (V.out.grown G3.out V.out.size fun k hk => (World.ownsRow.lt O.out.outer k hk).1)
          have P3 := Lib.hid (PU.out w3 _ G3.out (by rw [← E1.out]; exact O3.out))
          have r3 := P3.out.row (k := es.length) (by simp)
          rw [List.getElem_append_right (Nat.le_refl _)] at r3
          simp only [Nat.sub_self, List.getElem_cons_zero, Ent.v, ← E2.out] at r3
          have R3 := Lib.hid r3; clear r3
          refine (neighbors_any _ _ _ row _ R3.out.row E2.out (by omega) BDR.out).mono ?_
          rintro e w4 hgv
          obtain ⟨A5, c5, rfl, ho4, hb4⟩ := hgv.len (n2 - 1) (by rw [nextD_length, ← E2.out])
          have T := Lib.hid (ST.out w3 w4 A4 c4 A5 c5 V3.out P3.out ho4 hb4)
          clear hgv ho4 hb4
          go_wp2_with fail
          go_roundw
          case rel => exact T.out
          case measure => simp [lenOf]; omega
        · have h0r : row = [] := List.eq_nil_of_length_eq_zero (by omega)
          have hd : es.map Ent.xs = tab xs := by rw [← ef, h0r, tab_nil, List.append_nil]
          have hp' : ¬ (0 : Int) < (n2 : Int) := by omega
          have O := Lib.hid ho; have V := Lib.hid hw; have E1 := Lib.hid e1; have D := Lib.hid hd
          clear e1 e2 ef ho hrow hK hbd hw h0r hd hlt hlo2
          go_wp2_with fail
          go_ret
          exact ⟨_, _, _, es, rfl, E1.out, D.out, O.out, V.out⟩

set_option maxHeartbeats 2000000 in
theorem rawDiffTable_spec (A : Option Addr) (n cap : Nat) (xs : List Int) (w : World) (hr : Row w w.heap.size A xs) (hn : n = xs.length) (hx : n ≤ 10000000) :
    Calls Try.prog 39 #[.slice A n cap] w (GivesN w (tabP xs)) := by
  have hr2 := hr.keep ((Below.refl w.heap.size w).alloc (Nat.le_refl _) (.cells #[] 22))
  have V0 := Lib.hid ((Below.refl w.heap.size w).alloc (Nat.le_refl _) (.cells #[] 22))
  have NE := Lib.hid (Nest.empty w)
  cases h : shortB xs
  · rw [tabP_no h]
    have N := Lib.hid hn; have R2 := Lib.hid hr2; have H := Lib.hid h; clear hn hr h hr2
    go_enter Try.func39, Try.ntmps39
    go_wp2_with (go_at_call 55; refine (l2Short_any _ _ _ xs _ _ R2.out N.out hx).mono ?_; rintro e w' ⟨rfl, rfl⟩; rw [H.out])
    go_ret
    exact ⟨_, _, _, [], rfl, rfl, rfl, NE.out, V0.out⟩
  · rw [tabP_yes h]
    have hp := short_parts h
    have h30 : n ≤ 30 := by have := hp.2; omega
    have BD := Lib.hid (table_bd hp.1)
    have e1 : w.heap.size + 1 = (w.alloc (.cells #[] 22)).heap.size := by simp
    have OE : Hid (Own ((w.alloc (.cells #[] 22)).alloc (.cells #[] 3)) (w.alloc (.cells #[] 22)).heap.size ((w.alloc (.cells #[] 22)).alloc (.cells #[] 3)).heap.size (.slice (some ⟨w.heap.size + 1, 0, none⟩) 0 0) []) := by
      have h := Own.empty (w.alloc (.cells #[] 22))
      have e2 : (⟨w.heap.size + 1, 0, none⟩ : Addr) = ⟨(w.alloc (.cells #[] 22)).heap.size, 0, none⟩ := by rw [e1]
      rw [e2]
      exact h
    have SZ := Lib.hid e1
    clear e1
    have hr3 := hr2.keep ((Below.refl w.heap.size (w.alloc (.cells #[] 22))).alloc V0.out.size (.cells #[] 3))
    have N := Lib.hid hn; have R2 := Lib.hid hr2; have R3 := Lib.hid hr3; have H := Lib.hid h; clear hn hr h hr2 hr3 hp
    go_enter Try.func39, Try.ntmps39
    go_wp2_with (first | (go_at_call 55; refine (l2Short_any _ _ _ xs _ _ R2.out N.out hx).mono ?_; rintro e w' ⟨rfl, rfl⟩; rw [H.out]) | (at_builtin; refine wpList_app rfl _ _ rfl rfl OE.out (by simp) rfl N.out R3.out (by have := N.out; simp; omega) n (by have := N.out; simp; omega) ?_; intro A1 c1 w1 o1 g1; rw [SZ.out] at g1; have O1 := Lib.hid o1; have B1 := Lib.hid (below_new g1); clear o1 g1))
    go_loopw [3, 4] (fun v r wr => Tabs w xs v r wr) (fun _ r _ => lenOf r)
    case atStart => exact ⟨[], xs, 1000000000, _, c1, A1, 0, 0, _, _, rfl, rfl, N.out, rfl, rfl, (NE.out.below B1.out (Nat.le_refl _)).loosen (Nat.le_refl _) B1.out.size, O1.out, V0.out.size, (fun e he => by cases he), by omega, by omega, pow30 h30, by decide, BD.out, V0.out.trans (B1.out.mono V0.out.size)⟩
    case round =>
      obtain ⟨es, row, K, n2, c2, A2, m1, c3, A3, lo2, rfl, rfl, e2, e1, ef, ho, hrow, hlo2, hlt, h1000, hs, hK, hK0, hbd, hw⟩ := hrel
      by_cases hp : 0 < n2
      · obtain ⟨g, rfl, hg1, hg2, hg3⟩ := hrow.addr hp
        clear hg3
        have hp' : (0 : Int) < (n2 : Int) := by omega
        have bd : 2 ≤ n2 → ∀ x ∈ row, -4000000000000000000 ≤ x ∧ x ≤ 4000000000000000000 := fun h2 => first_bd h2 hK hK0 hbd
        have wa : Below wr.heap.size wr (wr.alloc (.cells #[.slice (some ⟨g, 0, none⟩) n2 c2] 22)) := (Below.refl wr.heap.size wr).alloc (Nat.le_refl _) _
        have hu : (wr.alloc (.cells #[.slice (some ⟨g, 0, none⟩) n2 c2] 22)).cell? ⟨wr.heap.size, 0, none⟩ = some (.slice (some ⟨g, 0, none⟩) n2 c2) := by rw [World.cell?_alloc_at _ _ _ _ rfl]; rfl
        have oa := (ho.below wa (Nat.le_refl _)).loosen (Nat.le_refl _) wa.size
        have ra := (hrow.below wa (Nat.le_refl _)).loosen (Nat.le_refl _) wa.size
        have hltg : ∀ e ∈ es, e.g < g := fun e he => Nat.lt_of_lt_of_le (hlt e he) hg1
        have PU := Lib.hid (fun w' v' => oa.push (w' := w') (v' := v') ra e2 hp hltg hlo2 (Nat.le_refl _))
        have ST := Lib.hid (fun w3 w4 A3 c3 A4 c4 => tabs_step (w := w) (w3 := w3) (w4 := w4) (A3 := A3) (c3 := c3) (A4 := A4) (c4 := c4) (g := g) (c2 := c2) hp e2 e1 ef h1000 hs hK hK0 hbd)
        have O := Lib.hid oa; have HR := Lib.hid ra; have BDR := Lib.hid bd; have V := Lib.hid (hw.trans (wa.mono hw.size)); have E1 := Lib.hid e1; have E2 := Lib.hid e2; have U := Lib.hid hu
        clear e1 e2 ef ho hrow hK hbd bd hw wa oa ra hlt hltg hg1 hg2 hu hlo2
        go_wp2_with (at_builtin; refine wpList_appL rfl _ _ rfl rfl O.out.outer V.out.size rfl U.out rfl (by have := E1.out; omega) (m1 + 1) (by rw [E1.out]) ?_; intro A4 c4 w3 ho3 hg3; have O3 := Lib.hid ho3; have G3 := Lib.hid hg3; clear ho3 hg3)
        have V3 := Lib.hid (V.out.grown G3.out V.out.size fun k hk => (World.ownsRow.lt O.out.outer k hk).1)
        have P3 := Lib.hid (PU.out w3 _ G3.out (by rw [← E1.out]; exact O3.out))
        have r3 := P3.out.row (k := es.length) (by simp)
        rw [List.getElem_append_right (Nat.le_refl _)] at r3
        simp only [Nat.sub_self, List.getElem_cons_zero, Ent.v, ← E2.out] at r3
        have R3 := Lib.hid r3; clear r3
        refine (l2Next_any _ _ _ row _ R3.out.row E2.out (by omega) BDR.out).mono ?_
        rintro e w4 hgv
        obtain ⟨A5, c5, rfl, ho4, hb4⟩ := hgv.len (n2 - 1) (by rw [nextD_length, ← E2.out])
        have T := Lib.hid (ST.out w3 w4 A4 c4 A5 c5 V3.out P3.out ho4 hb4)
        clear hgv ho4 hb4
        go_wp2_with fail
        go_roundw
        case rel => exact T.out
        case measure => simp [lenOf]; omega
      · have h0r : row = [] := List.eq_nil_of_length_eq_zero (by omega)
        have hd : es.map Ent.xs = tab xs := by rw [← ef, h0r, tab_nil, List.append_nil]
        have hp' : ¬ (0 : Int) < (n2 : Int) := by omega
        have O := Lib.hid ho; have V := Lib.hid hw; have E1 := Lib.hid e1; have D := Lib.hid hd
        clear e1 e2 ef ho hrow hK hbd hw h0r hd hlt hlo2
        go_wp2_with fail
        go_ret
        exact ⟨_, _, _, es, rfl, E1.out, D.out, O.out, V.out⟩

set_option maxHeartbeats 2000000 in
theorem ownListList_any (A : Option Addr) (n cap lo hi : Nat) (es : List Ent) (w : World) (h : Nest w lo hi (.slice A n cap) es) (hhi : hi ≤ w.heap.size) (hx : n ≤ 1000) (hm : ∀ e ∈ es, e.xs.length ≤ 1000) :
    Calls Try.prog 38 #[.slice A n cap] w (GivesN w (es.map Ent.xs)) := by
  have V0 := Lib.hid ((Below.refl w.heap.size w).alloc (Nat.le_refl _) (.cells #[] 22))
  have NE := Lib.hid (Nest.empty w)
  have hl := h.len
  have R := Lib.hid h; have L := Lib.hid hl; have M := Lib.hid hm; clear h hl hm
  go_enter Try.func38, Try.ntmps38
  go_wp2_with fail
  go_loopw [3, 9] (fun v i wr => ∃ (k c1 : Nat) (A1 : Option Addr) (es1 : List Ent), k ≤ n ∧ i = .int .i64 k ∧ v = .slice A1 k c1 ∧ k = es1.length ∧ Hid (es1.map Ent.xs = (es.take k).map Ent.xs) ∧ Nest wr w.heap.size wr.heap.size (.slice A1 k c1) es1 ∧ Below w.heap.size w wr) (fun _ i _ => n - (intOf i).toNat)
  case atStart => exact ⟨0, 0, _, [], Nat.zero_le _, rfl, rfl, rfl, (by simp : ([] : List Ent).map Ent.xs = (es.take 0).map Ent.xs), NE.out, V0.out⟩
  case round =>
    obtain ⟨k, c1, A1, es1, hk, rfl, rfl, e1, X, ho, hw⟩ := hrel
    by_cases hlt : k < n
    · have k1 : k < es.length := by have := L.out; omega
      have q := R.out.below hw hhi
      obtain ⟨g, rfl, hc⟩ := q.at_ k1
      have r1 := q.row k1
      have hm := M.out _ (List.getElem_mem k1)
      have hpos := (R.out.rows _ (List.getElem_mem k1)).2
      have X2 : Hid (∀ (g2 c2 : Nat), (es1 ++ [(⟨g2, c2, es[k].xs⟩ : Ent)]).map Ent.xs = (es.take (k + 1)).map Ent.xs) := by
        intro g2 c2
        rw [List.map_append, X.out, List.take_succ_eq_append_getElem k1, List.map_append]
        rfl
      generalize es[k] = en at *
      obtain ⟨g1, cc, x1⟩ := en
      obtain ⟨m, em⟩ : ∃ m, m = x1.length := ⟨_, rfl⟩
      simp only [Ent.v, ← em] at hc r1 hm hpos X2
      have wa : Below wr.heap.size wr (wr.alloc (.cells #[] 3)) := (Below.refl wr.heap.size wr).alloc (Nat.le_refl _) _
      have RA := Lib.hid ((r1.below wa (Nat.le_trans hhi hw.size)).row)
      have O := Lib.hid ho; have V := Lib.hid hw; have E1 := Lib.hid e1; have EM := Lib.hid em
      clear q r1 ho hw e1 em wa
      go_wp2_with (at_builtin; first
        | (refine wpList_app rfl _ _ rfl rfl (Own.empty wr) (by simp) rfl EM.out RA.out (by have := EM.out; simp; omega) m (by have := EM.out; simp; omega) ?_
           intro A2 c2 w2 o2 g2
           have bn := below_new g2
           clear g2
           obtain ⟨gg, rfl, h1, h2, h3⟩ := o2.addr hpos
           clear h3
           have wb : Below w2.heap.size w2 (w2.alloc (.cells #[.slice (some ⟨gg, 0, none⟩) m c2] 22)) := (Below.refl w2.heap.size w2).alloc (Nat.le_refl _) _
           have hu : (w2.alloc (.cells #[.slice (some ⟨gg, 0, none⟩) m c2] 22)).cell? ⟨w2.heap.size, 0, none⟩ = some (.slice (some ⟨gg, 0, none⟩) m c2) := by rw [World.cell?_alloc_at _ _ _ _ rfl]; rfl
           have oa := ((O.out.below bn (Nat.le_refl _)).loosen (Nat.le_refl _) bn.size).below wb (Nat.le_refl _) |>.loosen (Nat.le_refl _) wb.size
           have ra := (o2.below wb (Nat.le_refl _)).loosen (Nat.le_refl _) wb.size
           have hltg : ∀ e ∈ es1, e.g < gg := fun e he => Nat.lt_of_lt_of_le ((O.out.rows e he).1.2 e.g rfl) h1
           have PU := Lib.hid (fun w' v' => oa.push (w' := w') (v' := v') ra (by rw [List.nil_append]; exact EM.out) hpos hltg V.out.size (Nat.le_refl _))
           have V2 := Lib.hid ((V.out.trans (bn.mono V.out.size)).trans (wb.mono (Nat.le_trans V.out.size bn.size)))
           have O2 := Lib.hid oa; have U := Lib.hid hu
           clear o2 bn h1 h2 wb hu oa ra hltg)
        | (refine wpList_appL rfl _ _ rfl rfl O2.out.outer V2.out.size rfl U.out rfl (by have := E1.out; omega) (k + 1) (by rw [E1.out]) ?_
           intro A4 c4 w3 ho3 hg3
           have T := Lib.hid (And.intro (PU.out w3 _ hg3 (by rw [← E1.out]; exact ho3)) (V2.out.grown hg3 V2.out.size fun x hx => (World.ownsRow.lt O2.out.outer x hx).1))
           clear ho3 hg3))
      go_roundw
      case rel => exact ⟨k + 1, c4, A4, es1 ++ [⟨gg, c2, [] ++ x1⟩], by omega, by go_num, rfl, by rw [List.length_append, ← E1.out]; rfl, Lib.hid (X2.out gg c2), T.out.1, T.out.2⟩
      case measure => simp [intOf] <;> omega
    · obtain rfl : k = n := by omega
      have e : es.take k = es := List.take_of_length_le (by have := L.out; omega)
      rw [e] at X
      have O := Lib.hid ho; have V := Lib.hid hw; have E1 := Lib.hid e1
      clear ho hw e1 e
      go_wp2_with fail
      go_ret
      exact ⟨_, _, _, es1, rfl, E1.out, X.out, O.out, V.out⟩

set_option maxHeartbeats 1000000 in
theorem diffTable_spec (A : Option Addr) (n cap : Nat) (xs : List Int) (w : World) (hr : Row w w.heap.size A xs) (hn : n = xs.length) (hx : n ≤ 10000000) :
    Calls Try.prog 15 #[.slice A n cap] w (GivesN w (tabP xs)) := by
  have C := Lib.hid (rawDiffTable_spec A n cap xs w hr hn hx); clear hr hn
  go_enter Try.func15, Try.ntmps15
  go_wp2_with fail
  refine C.out.mono ?_
  rintro e w1 ⟨A1, n1, c1, es1, rfl, e1, x1, o1, b1⟩
  have hb := tab_rows x1
  have X1 := Lib.hid x1
  have E1 := Lib.hid e1; have O1 := Lib.hid o1; have B1 := Lib.hid b1; have HB := Lib.hid hb; clear e1 x1 o1 b1 hb
  go_wp2_with fail
  refine (ownListList_any A1 n1 c1 _ _ es1 w1 O1.out (Nat.le_refl _) (by have := HB.out.1; have := E1.out; omega) (fun e he => Nat.le_trans (HB.out.2.1 e he) (by decide))).mono ?_
  rintro e w2 ⟨A2, n2, c2, es2, rfl, e2, x2, o2, b2⟩
  have E2 := Lib.hid e2; have X2 := Lib.hid x2; have O2 := Lib.hid (o2.loosen B1.out.size (Nat.le_refl _)); have B2 := Lib.hid (B1.out.trans (b2.mono B1.out.size)); clear e2 x2 o2 b2
  go_wp2_with fail
  go_ret
  exact ⟨_, _, _, es2, rfl, E2.out, X2.out.trans X1.out, O2.out, B2.out⟩
end Go.Proofs.Ytbcmpgagceomgaa
