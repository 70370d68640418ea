/- The walks of both texts of FormatSigned and ParseSigned. -/
import Derived.Test.YthhkpghecekoeaaDoorNumWalk
namespace Go.Proofs.YthhkpghecekoeaaDoor
open Go.RowKit

theorem bare_len {l : List UInt8} (h : bareN l ≤ 17) : l.length ≤ 18 := by
  unfold bareN at h
  split at h <;> omega

set_option maxHeartbeats 1000000 in
theorem parseNumber_any (s : ByteArray) (w : World) (hs : s.size ≤ maxLen) (hT : TabAt w) (hE : ErrAt w) :
    Calls Tryd.prog 18 #[.string s] w fun e w' => e = .returned (.tuple #[.int .i64 (numV (bl s)), .bool (numB (bl s))]) ∧ Below w.heap.size w w' := by
  obtain ⟨t, ht⟩ : ∃ t : ByteArray, t = ⟨(Lib.trimPrefix s.data.toList [45]).toArray⟩ := ⟨_, rfl⟩
  have hts : t.size = bareN (bl s) := by rw [ht, ← trim_bare]; simp [ByteArray.size, bl]
  have C1 : Hid (∀ W, Calls Tryd.prog 31 #[.string s, .string ⟨#[45]⟩] W fun e w' => e = .returned (.string t) ∧ W = w') := Lib.hid fun W => by
    have h := Tryd.strings_TrimPrefix s ⟨#[45]⟩ W
    exact h.mono fun e w' ⟨he, hw⟩ => ⟨by rw [he, ht], hw.symm⟩
  have B := Lib.hid (Below.refl w.heap.size w)
  unfold maxLen at hs
  by_cases h17 : 17 < bareN (bl s)
  · have hb := num_long h17
    rw [numV_no hb, hb]
    have h17' : (17 : Int) < (t.size : Int) := by omega
    clear ht hts h17 hb hT hE
    go_enter Tryd.func18, Tryd.ntmps18
    go_wp2_with fail
    refine (C1.out _).mono ?_
    rintro e w' ⟨rfl, rfl⟩
    go_wp2_with fail
    go_ret2
    exact ⟨rfl, B.out⟩
  · have h17' : ¬ (17 : Int) < (t.size : Int) := by omega
    have hl : s.size ≤ 18 := by rw [← length_bl]; exact bare_len (by omega)
    cases ha : Lib.atoi (bl s) with
    | none =>
      have hb : numB (bl s) = false := by
        rw [Bool.eq_false_iff]; intro h
        have := (num_yes h).1
        rw [ha] at this
        cases this
      rw [numV_no hb, hb]
      have C2 := Lib.hid (atoi_no s w hl ha hE)
      clear ht hts h17 hb ha hT hE
      go_enter Tryd.func18, Tryd.ntmps18
      go_wp2_with fail
      refine (C1.out _).mono ?_
      rintro e w' ⟨rfl, rfl⟩
      go_wp2_with fail
      refine C2.out.mono ?_
      rintro e w2 ⟨N, rfl, hw2⟩
      have B := Lib.hid hw2; clear hw2
      go_wp2_with fail
      go_ret2
      exact ⟨rfl, B.out⟩
    | some n =>
      have hn := atoi_bounds s n hl ha
      have C2 := Lib.hid (atoi_yes s n w hl ha)
      obtain ⟨u, hu⟩ : ∃ u, u = str (Lib.itoa n) := ⟨_, rfl⟩
      have C3 : Hid (∀ W, TabAt W → Calls Tryd.prog 22 #[.int .i64 n] W fun e w' => e = .returned (.string u) ∧ Below W.heap.size W w') := Lib.hid fun W h => by rw [hu]; exact itoa_c n W hn.1 hn.2 h
      have HT := Lib.hid hT
      by_cases he : Lib.itoa n = bl s
      · have hb := num_of (by omega) he
        have hv : numV (bl s) = n := by
          have := (num_yes hb).1
          rw [ha] at this
          exact (Option.some.inj this).symm
        rw [hv, hb]
        obtain rfl : u = s := by rw [hu, he, str_bl]
        clear ht hts h17 hb hv he ha hT hE hu
        go_enter Tryd.func18, Tryd.ntmps18
        go_wp2_with fail
        refine (C1.out _).mono ?_
        rintro e w' ⟨rfl, rfl⟩
        go_wp2_with fail
        refine C2.out.mono ?_
        rintro e w2 ⟨rfl, hw2⟩
        have T2 := Lib.hid (HT.out.keep hw2)
        have B := Lib.hid hw2; clear hw2
        go_wp2_with fail
        refine (C3.out _ T2.out).mono ?_
        rintro e w3 ⟨rfl, hw3⟩
        have B := Lib.hid (below_two B.out hw3); clear hw3
        go_wp2_with fail
        go_ret2
        exact ⟨rfl, B.out⟩
      · have hb : numB (bl s) = false := by
          rw [Bool.eq_false_iff]; intro h
          have h1 := num_yes h
          have h2 := h1.1
          rw [ha] at h2
          rw [← Option.some.inj h2] at h1
          exact he h1.2.1
        rw [numV_no hb, hb]
        have hne : u ≠ s := fun e => he (by rw [← e, hu, bl_str])
        have hne2 : (u.toList == s.toList) = false := beq_eq_false_iff_ne.2 fun e => hne (bl_inj (by rw [Lib.toList_data, Lib.toList_data] at e; exact e))
        clear hne
        clear ht hts h17 hb he ha hT hE hu
        go_enter Tryd.func18, Tryd.ntmps18
        go_wp2_with fail
        refine (C1.out _).mono ?_
        rintro e w' ⟨rfl, rfl⟩
        go_wp2_with fail
        refine C2.out.mono ?_
        rintro e w2 ⟨rfl, hw2⟩
        have T2 := Lib.hid (HT.out.keep hw2)
        have B := Lib.hid hw2; clear hw2
        go_wp2_with fail
        refine (C3.out _ T2.out).mono ?_
        rintro e w3 ⟨rfl, hw3⟩
        have B := Lib.hid (below_two B.out hw3); clear hw3
        go_wp2_with fail
        go_ret2
        exact ⟨rfl, B.out⟩

/-- What ParseSigned returns. -/
def parB (l : List UInt8) (width : Int) : Bool := numB l && colOfB (numV l) width
def parL (l : List UInt8) (width : Int) : List UInt8 := if numB l = true then colOfL (numV l) width else []
theorem par_no {l : List UInt8} {width : Int} (h : numB l = false) : parB l width = false ∧ parL l width = [] := by unfold parB parL; rw [h]; exact ⟨rfl, rfl⟩
theorem par_yes {l : List UInt8} {width : Int} (h : numB l = true) : parB l width = colOfB (numV l) width ∧ parL l width = colOfL (numV l) width := by unfold parB parL; rw [h]; exact ⟨rfl, rfl⟩

set_option maxHeartbeats 1000000 in
theorem parse_impl (s : ByteArray) (width : Int) (w : World) (hs : s.size ≤ maxLen) (hT : TabAt w) (hE : ErrAt w) :
    Calls Tryd.prog 7 #[.string s, .int .i64 width] w fun e w' => e = .returned (.tuple #[.string (str (parL (bl s) width)), .bool (parB (bl s) width)]) ∧ Below w.heap.size w w' := by
  have C1 := Lib.hid (parseNumber_any s w hs hT hE)
  cases h : numB (bl s)
  · rw [(par_no h).1, (par_no h).2]
    rw [h, numV_no h] at C1
    clear h
    go_enter Tryd.func7, Tryd.ntmps7
    go_wp2_with fail
    refine C1.out.mono ?_
    rintro e w' ⟨rfl, hw⟩
    have B := Lib.hid hw; clear hw
    go_wp2_with fail
    go_ret2
    exact ⟨rfl, B.out⟩
  · rw [(par_yes h).1, (par_yes h).2]
    rw [h] at C1
    have C2 := Lib.hid (fun W => columnOf_impl (numV (bl s)) width W)
    generalize numV (bl s) = n at *
    generalize str (colOfL n width) = q at *
    generalize colOfB n width = z at *
    clear h
    go_enter Tryd.func7, Tryd.ntmps7
    go_wp2_with fail
    refine C1.out.mono ?_
    rintro e w' ⟨rfl, hw⟩
    have B := Lib.hid hw; clear hw
    go_wp2_with fail
    refine (C2.out _).mono ?_
    rintro e w2 ⟨rfl, hw2⟩
    have B := Lib.hid (below_two B.out hw2); clear hw2
    go_wp2_with fail
    go_ret2
    exact ⟨rfl, B.out⟩

set_option maxHeartbeats 1000000 in
theorem parse_spec (s : ByteArray) (width : Int) (w : World) (hs : s.size ≤ maxLen) :
    Calls Tryd.prog 6 #[.string s, .int .i64 width] w fun e w' => e = .returned (.tuple #[.string (str (parL (bl s) width)), .bool (parB (bl s) width)]) ∧ Below w.heap.size w w' := by
  have C1 := Lib.hid (l9Num_any s w hs)
  cases h : numB (bl s)
  · rw [(par_no h).1, (par_no h).2]
    rw [h, numV_no h] at C1
    clear h
    go_enter Tryd.func6, Tryd.ntmps6
    go_wp2_with fail
    refine C1.out.mono ?_
    rintro e w' ⟨rfl, rfl⟩
    go_wp2_with fail
    go_ret2
    exact ⟨rfl, Below.refl _ _⟩
  · rw [(par_yes h).1, (par_yes h).2]
    rw [h] at C1
    have C2 := Lib.hid (fun W => columnOf_spec (numV (bl s)) width W)
    generalize numV (bl s) = n at *
    generalize str (colOfL n width) = q at *
    generalize colOfB n width = z at *
    clear h
    go_enter Tryd.func6, Tryd.ntmps6
    go_wp2_with fail
    refine C1.out.mono ?_
    rintro e w' ⟨rfl, rfl⟩
    go_wp2_with fail
    refine (C2.out _).mono ?_
    rintro e w2 ⟨rfl, hw2⟩
    have B := Lib.hid hw2; clear hw2
    go_wp2_with fail
    go_ret2
    exact ⟨rfl, B.out⟩

/-- What FormatSigned returns. -/
def fmtL (l : List UInt8) : List UInt8 := if colB l = true then Lib.itoa (sgnOf l) else []

set_option maxHeartbeats 1000000 in
theorem format_impl (s : ByteArray) (w : World) (hs : s.size ≤ maxLen) (hT : TabAt w) :
    Calls Tryd.prog 9 #[.string s] w fun e w' => e = .returned (.string (str (fmtL (bl s)))) ∧ Below w.heap.size w w' := by
  have C1 := Lib.hid (signedOf_impl s w hs)
  cases h : colB (bl s)
  · rw [show fmtL (bl s) = [] by unfold fmtL; rw [h]; rfl]
    rw [h] at C1
    clear h
    go_enter Tryd.func9, Tryd.ntmps9
    go_wp2_with fail
    refine C1.out.mono ?_
    rintro e w' ⟨rfl, rfl⟩
    go_wp2_with fail
    go_ret
    exact ⟨rfl, Below.refl _ _⟩
  · rw [show fmtL (bl s) = Lib.itoa (sgnOf (bl s)) by unfold fmtL; rw [h]; rfl]
    rw [h] at C1
    have hb := sgnOf_bd (bl s)
    have C2 := Lib.hid (itoa_c (sgnOf (bl s)) w (by omega) (by omega) hT)
    generalize sgnOf (bl s) = n at *
    generalize str (Lib.itoa n) = q at *
    clear h
    go_enter Tryd.func9, Tryd.ntmps9
    go_wp2_with fail
    refine C1.out.mono ?_
    rintro e w' ⟨rfl, rfl⟩
    go_wp2_with fail
    refine C2.out.mono ?_
    rintro e w2 ⟨rfl, hw2⟩
    have B := Lib.hid hw2; clear hw2
    go_wp2_with fail
    go_ret
    exact ⟨rfl, B.out⟩

set_option maxHeartbeats 1000000 in
theorem format_spec (s : ByteArray) (w : World) (hs : s.size ≤ maxLen) :
    Calls Tryd.prog 8 #[.string s] w fun e w' => e = .returned (.string (str (fmtL (bl s)))) ∧ Below w.heap.size w w' := by
  have C1 := Lib.hid (columnValid_spec s w hs)
  cases h : colB (bl s)
  · rw [show fmtL (bl s) = [] by unfold fmtL; rw [h]; rfl]
    rw [h] at C1
    clear h
    go_enter Tryd.func8, Tryd.ntmps8
    go_wp2_with fail
    refine C1.out.mono ?_
    rintro e w' ⟨rfl, rfl⟩
    go_wp2_with fail
    go_ret
    exact ⟨rfl, Below.refl _ _⟩
  · rw [show fmtL (bl s) = Lib.itoa (sgnOf (bl s)) by unfold fmtL; rw [h]; rfl]
    have C2 := Lib.hid (l1Signed_any s w h)
    rw [h] at C1
    have hb := sgnOf_bd (bl s)
    have C3 := Lib.hid (l9Dec_any (sgnOf (bl s)) w (by omega) (by omega))
    generalize sgnOf (bl s) = n at *
    generalize str (Lib.itoa n) = q at *
    clear h
    go_enter Tryd.func8, Tryd.ntmps8
    go_wp2_with fail
    refine C1.out.mono ?_
    rintro e w' ⟨rfl, rfl⟩
    go_wp2_with fail
    refine C2.out.mono ?_
    rintro e w' ⟨rfl, rfl⟩
    go_wp2_with fail
    refine C3.out.mono ?_
    rintro e w2 ⟨rfl, hw2⟩
    have B := Lib.hid hw2; clear hw2
    go_wp2_with fail
    go_ret
    exact ⟨rfl, B.out⟩
end Go.Proofs.YthhkpghecekoeaaDoor
