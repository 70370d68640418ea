/- The walks of both texts of CarryOnce, CarryAll and CarryTimes. -/
import Derived.Test.YtghgienpkffcbaaColF
import Derived.Test.YtghgienpkffcbaaColE
import Derived.Test.YtghgienpkffcbaaCarryPlain
import Derived.Test.YtghgienpkffcbaaShelf4
import Derived.OwnWalk
namespace Go.Proofs.Ytghgienpkffcbaa
open Go.RowKit

/-- Block g begins with the bytes l, and they may be written. -/
def Byt (w : World) (g : Nat) (l : List UInt8) : Prop :=
  ∃ cs t lo hi, w.heap[g]? = some (.cells cs t (lo, hi)) ∧ l.length ≤ lo ∧ ∀ i (h : i < l.length), cs[i]? = some (.int .u8 (l[i].toNat : Int))
theorem Byt.lt {w : World} {g : Nat} {l : List UInt8} (h : Byt w g l) : g < w.heap.size := by
  obtain ⟨cs, t, lo, hi, e, _⟩ := h
  apply Classical.byContradiction
  intro hn
  rw [Array.getElem?_eq_none (by omega)] at e
  cases e
theorem Byt.cell {w : World} {g : Nat} {l : List UInt8} (h : Byt w g l) {i : Nat} (hi : i < l.length) : w.cell? ⟨g, i, none⟩ = some (.int .u8 (l[i].toNat : Int)) := by
  obtain ⟨cs, t, lo, hi', e, _, hc⟩ := h
  unfold World.cell?
  simp [e, hc i hi]
theorem Byt.free {w : World} {g : Nat} {l : List UInt8} (h : Byt w g l) {i : Nat} (hi : i < l.length) : w.frozen? ⟨g, i, none⟩ = false := by
  obtain ⟨cs, t, lo, hi', e, hl, _⟩ := h
  unfold World.frozen?
  simp [e]
  intro hlo
  omega
theorem Byt.put {w : World} {g : Nat} {l : List UInt8} (h : Byt w g l) (i : Nat) (c : UInt8) : Byt (w.setCell ⟨g, i, none⟩ (.int .u8 (c.toNat : Int))) g (l.set i c) := by
  obtain ⟨cs, t, lo, hi', e, hl, hc⟩ := h
  refine ⟨cs.setIfInBounds i (.int .u8 (c.toNat : Int)), t, lo, hi', ?_, by rw [List.length_set]; exact hl, ?_⟩
  · simp [World.setCell, Array.getElem?_modify, e]
  · intro k hk
    rw [List.length_set] at hk
    have h1 := hc k hk
    by_cases hik : i = k
    · subst hik
      have hsz : i < cs.size := by
        apply Classical.byContradiction
        intro hn
        rw [Array.getElem?_eq_none (by omega)] at h1
        cases h1
      rw [Array.getElem?_setIfInBounds_self_of_lt hsz, List.getElem_set_self]
    · rw [Array.getElem?_setIfInBounds_ne hik, List.getElem_set_ne hik]
      exact h1
theorem Byt.keep {w w' : World} {g : Nat} {l : List UInt8} (h : Byt w g l) {B : Nat} (hb : Below B w w') (hg : g < B) : Byt w' g l := by
  obtain ⟨cs, t, lo, hi', e, hl, hc⟩ := h
  exact ⟨cs, t, lo, hi', (hb.block g hg).trans e, hl, hc⟩
theorem Byt.other {w : World} {g : Nat} {l : List UInt8} (h : Byt w g l) {g' : Nat} (hne : g ≠ g') (i : Nat) (u : Value) : Byt (w.setCell ⟨g', i, none⟩ u) g l := by
  obtain ⟨cs, t, lo, hi', e, hl, hc⟩ := h
  exact ⟨cs, t, lo, hi', (Below.heap_setCell w ⟨g', i, none⟩ u g hne).trans e, hl, hc⟩
theorem byt_string {W : World} {g : Nat} {l : List UInt8} (h : Byt W g l) (n cap : Nat) (hn : n = l.length) :
    (convert 28 9 (.slice (some ⟨g, 0, none⟩) n cap)).run Try.prog W = .ok (.string (str l)) W := by
  subst hn
  refine run_convert_bytes_back W 28 9 5 ⟨g, 0, none⟩ cap l Try.underlying28 Try.underlying5 Try.underlying9 (fun j hj => ?_)
  have e : (⟨g, 0, none⟩ : Addr).add j = ⟨g, j, none⟩ := by
    unfold Addr.add; split
    · rename_i h0; subst h0; rfl
    · simp
  rw [e, h.cell hj]
/-- []byte(s). -/
theorem byt_new (W : World) (s : ByteArray) : ∃ cap W', (convert 9 28 (.string s)).run Try.prog W = .ok (.slice (some ⟨W.heap.size, 0, none⟩) s.size cap) W' ∧ s.size ≤ cap ∧ Byt W' W.heap.size (bl s) ∧ Below W.heap.size W W' := by
  refine ⟨_, _, run_bytes_of_string W 9 28 5 s Try.underlying9 Try.underlying28 Try.underlying5, grownCap_ge _ _ _ _, ?_, ?_⟩
  · refine ⟨_, _, _, _, heap_alloc_new W.drew _, ?_, ?_⟩
    · rw [length_bl]
      unfold bytesRow
      rw [Array.size_append, Array.size_map]
      exact Nat.le_add_right _ _
    · intro i hi
      rw [length_bl] at hi
      exact bytesRow_at s _ i hi
  · exact ((Below.refl W.heap.size W).drew).alloc (Nat.le_refl _) _

/-- The first k wheels are done. -/
def mix (a b : List UInt8) (k : Nat) : List UInt8 := a.take k ++ b.drop k
theorem mix_zero (a b : List UInt8) : mix a b 0 = b := by simp [mix]
theorem mix_all {a b : List UInt8} (h : b.length = a.length) : mix a b a.length = a := by unfold mix; rw [List.take_length, List.drop_of_length_le (by omega), List.append_nil]
theorem mix_length {a b : List UInt8} (h : b.length = a.length) (k : Nat) (hk : k ≤ a.length) : (mix a b k).length = a.length := by
  simp [mix, List.length_take]; omega
theorem mix_at {a b : List UInt8} {k : Nat} (hk : k < a.length) (hk2 : k < (mix a b k).length) (hk3 : k < b.length) : (mix a b k)[k] = b[k] := by
  apply Option.some.inj
  rw [← List.getElem?_eq_getElem hk2, ← List.getElem?_eq_getElem hk3]
  unfold mix
  rw [List.getElem?_append_right (by rw [List.length_take]; omega), List.length_take, Nat.min_eq_left (Nat.le_of_lt hk), Nat.sub_self, List.getElem?_drop, Nat.add_zero]
theorem mix_set {a b : List UInt8} (h : b.length = a.length) {k : Nat} (hk : k < a.length) : (mix a b k).set k a[k] = mix a b (k + 1) := by
  unfold mix
  have hd : b.drop k = b[k]'(by omega) :: b.drop (k + 1) := List.drop_eq_getElem_cons (by omega)
  rw [List.set_append_right _ _ (by rw [List.length_take]; omega), List.length_take, Nat.min_eq_left (Nat.le_of_lt hk), Nat.sub_self, hd, List.set_cons_zero, List.take_succ_eq_append_getElem hk, List.append_assoc]
  rfl
theorem mix_same {a b : List UInt8} (h : b.length = a.length) {k : Nat} (hk : k < a.length) (hk2 : k < b.length) (e : a[k] = b[k]) : mix a b (k + 1) = mix a b k := by
  rw [← mix_set h hk]
  have h2 : k < (mix a b k).length := by rw [mix_length h k (by omega)]; exact hk
  rw [e, ← mix_at hk h2 hk2]
  exact List.set_getElem_self h2

/-- What CarryOnce returns. -/
def onceC (c m : List UInt8) : List UInt8 := if marksB c m = true then stepC c m else []
def onceM (c m : List UInt8) : List UInt8 := if marksB c m = true then stepM c m else []
theorem once_no {c m : List UInt8} (h : marksB c m = false) : onceC c m = [] ∧ onceM c m = [] := by unfold onceC onceM; rw [h]; exact ⟨rfl, rfl⟩
theorem once_yes {c m : List UInt8} (h : marksB c m = true) : onceC c m = stepC c m ∧ onceM c m = stepM c m := by unfold onceC onceM; rw [h]; exact ⟨rfl, rfl⟩
theorem ret_three {a a' b b' : ByteArray} {x : Bool} (h1 : a = a') (h2 : b = b') : Ending.returned (.tuple #[.string a, .string b, .bool x]) = .returned (.tuple #[.string a', .string b', .bool x]) := by rw [h1, h2]

set_option maxHeartbeats 1000000 in
theorem once_spec (c m : ByteArray) (w : World) (hc : c.size ≤ maxLen) (hm : m.size ≤ maxLen) :
    Calls Try.prog 10 #[.string c, .string m] w fun e w' => e = .returned (.tuple #[.string (str (onceC (bl c) (bl m))), .string (str (onceM (bl c) (bl m))), .bool (marksB (bl c) (bl m))]) ∧ Below w.heap.size w w' := by
  cases h : marksB (bl c) (bl m)
  · rw [(once_no h).1, (once_no h).2]
    have C1 := Lib.hid (fun W => l1Flags_any c m W hc hm)
    rw [h] at C1
    clear h
    go_enter Try.func10, Try.ntmps10
    go_wp2_with fail
    refine (C1.out _).mono ?_
    rintro e w' ⟨rfl, rfl⟩
    go_wp2_with fail
    go_ret3
    exact ⟨rfl, Below.refl _ _⟩
  · rw [(once_yes h).1, (once_yes h).2]
    have hl := marks_len h
    simp only [length_bl] at hl
    have u := upL_col h
    obtain ⟨s, hs⟩ : ∃ s, s = str (upL (bl m)) := ⟨_, rfl⟩
    have hbl : bl s = upL (bl m) := by rw [hs, bl_str]
    have hms : s.size ≤ maxLen := by rw [hs, size_str, ← hl.2.2.1]; exact hc
    have hT : turnL (bl c) (bl s) = stepC (bl c) (bl m) := by unfold turnL; rw [hbl, if_pos u.2.2]; rfl
    have hW : warnL (bl c) (bl s) = stepM (bl c) (bl m) := by unfold warnL; rw [hbl, if_pos u.2.2]; rfl
    have hA : alikeB (bl c) (bl s) = true := by rw [hbl]; exact u.2.2
    have C1 := Lib.hid (fun W => l1Flags_any c m W hc hm)
    have C2 := Lib.hid (fun W => l1Up_any m W hm hl.1)
    have C3 := Lib.hid (fun W => turn_spec c s W hc hms)
    have C4 := Lib.hid (fun W => warn_spec c s W hc hms)
    rw [h] at C1
    rw [← hs] at C2
    rw [hA, hT] at C3
    rw [hA, hW] at C4
    have B := Lib.hid (Below.refl w.heap.size w)
    clear h hl u hs hbl hT hW hA
    go_enter Try.func10, Try.ntmps10
    go_wp2_with fail
    refine (C1.out _).mono ?_
    rintro e w' ⟨rfl, rfl⟩
    go_wp2_with fail
    refine (C2.out _).mono ?_
    rintro e w' ⟨rfl, rfl⟩
    go_wp2_with fail
    refine (C3.out _).mono ?_
    rintro e w' ⟨rfl, hw⟩
    have B := Lib.hid (below_two B.out hw); clear hw
    go_wp2_with fail
    refine (C2.out _).mono ?_
    rintro e w' ⟨rfl, rfl⟩
    go_wp2_with fail
    refine (C4.out _).mono ?_
    rintro e w' ⟨rfl, hw⟩
    have B := Lib.hid (below_two B.out hw); clear hw
    go_wp2_with fail
    go_ret3
    exact ⟨rfl, B.out⟩

/-- Zeros. -/
theorem repeat_list (k : Nat) : Lib.repeatL [48] k = List.replicate k (48 : UInt8) := by
  induction k with
  | zero => rfl
  | succ k ih => rw [Lib.repeatL, ih]; rfl
theorem repeat_zeros (k : Nat) (W : World) (h1 : 1 ≤ k) (h2 : k ≤ 12) : Calls Try.prog 30 #[.string ⟨#[48]⟩, .int .i64 (k : Int)] W fun e w' => e = .returned (.string (str (List.replicate k 48))) ∧ Below W.heap.size W w' := by
  by_cases hk : k = 1
  · subst hk
    exact (Try.strings_Repeat_one ⟨#[48]⟩ W).mono fun e w' ⟨he, hw⟩ => ⟨he, by rw [hw]; exact Below.refl _ _⟩
  · refine (Try.strings_Repeat_main ⟨#[48]⟩ k W (by omega) (by omega) (by show 1 * k ≤ _; omega) (by decide)).mono fun e w' ⟨he, hw⟩ => ⟨?_, hw⟩
    rw [he, show (⟨#[48]⟩ : ByteArray).data.toList = [48] from rfl, repeat_list]
    rfl
/-- Is there a mark? -/
theorem index_one (l : List UInt8) : (0 ≤ Lib.indexByte l 49) ↔ lastOne l ≠ 0 := by
  induction l with
  | nil => simp [Lib.indexByte, lastOne]
  | cons x l ih =>
    unfold Lib.indexByte lastOne
    have hx : (x == 49) = true ↔ x.toNat = 49 := by
      rw [beq_iff_eq, ← UInt8.toNat_inj]; rfl
    have hg := Lib.indexByte_ge l 49
    by_cases h : x.toNat = 49
    · rw [if_pos (hx.2 h)]
      split <;> simp
    · rw [if_neg (fun hh => h (hx.1 hh))]
      by_cases hi : Lib.indexByte l 49 = -1
      · have h0 : lastOne l = 0 := by
          apply Classical.byContradiction; intro hn
          have := ih.2 hn; omega
        rw [if_pos (by simp [hi]), if_pos h0, if_neg h]
        simp
      · have h0 : lastOne l ≠ 0 := ih.1 (by omega)
        rw [if_neg (by simp [hi]), if_neg h0]
        simp; omega

theorem once_at {c m : ByteArray} (h : marksB (bl c) (bl m) = true) {k : Nat} (hkc : k < c.size) (hkm : k + 1 < m.size) (h1 : k < (stepC (bl c) (bl m)).length) (h2 : k < (stepM (bl c) (bl m)).length) :
    (stepC (bl c) (bl m))[k] = turnD c[k] m[k + 1] ∧ (stepM (bl c) (bl m))[k] = warnD c[k] m[k + 1] := by
  have e1 : gd (bl c) k = c[k] := by rw [gd_at (by rw [length_bl]; exact hkc)]; rfl
  have e2 : gd (bl m) (k + 1) = m[k + 1] := by rw [gd_at (by rw [length_bl]; exact hkm)]; rfl
  rw [← gd_at h1, ← gd_at h2, gd_stepC h, gd_stepM h, e1, e2]
  exact ⟨rfl, rfl⟩
theorem turn_still {x y : UInt8} (hx : 48 ≤ x.toNat ∧ x.toNat ≤ 57) (hy : y.toNat = 48) : turnD x y = x ∧ warnD x y = 48 := by
  constructor
  · apply UInt8.toNat_inj.1
    unfold turnD
    rw [UInt8.toNat_ofNat']
    omega
  · unfold warnD; rw [if_neg (by omega)]
theorem turn_over {x y : UInt8} (hx : x.toNat = 57) (hy : y.toNat = 49) : turnD x y = 48 ∧ warnD x y = 49 := by
  constructor
  · unfold turnD; rw [hx, hy]; rfl
  · unfold warnD; rw [if_pos (by omega)]
theorem turn_up {x y : UInt8} (hx : 48 ≤ x.toNat ∧ x.toNat ≤ 57) (h9 : x.toNat ≠ 57) (hy : y.toNat = 49) : (turnD x y).toNat = x.toNat + 1 ∧ warnD x y = 48 := by
  constructor
  · unfold turnD
    rw [UInt8.toNat_ofNat']
    omega
  · unfold warnD; rw [if_neg (by omega)]
theorem once_last {c m : ByteArray} (h : marksB (bl c) (bl m) = true) {k : Nat} (hk : k + 1 = c.size) (h0 : k < c.size) (h1 : k < (stepC (bl c) (bl m)).length) (h2 : k < (stepM (bl c) (bl m)).length) :
    (stepC (bl c) (bl m))[k] = c[k] ∧ (stepM (bl c) (bl m))[k] = 48 := by
  have hl := marks_len h
  simp only [length_bl] at hl
  have e1 : gd (bl c) k = c[k] := by rw [gd_at (by rw [length_bl]; exact h0)]; rfl
  have e2 : gd (bl m) (k + 1) = 48 := gd_out (by rw [length_bl]; omega)
  rw [← gd_at h1, ← gd_at h2, gd_stepC h, gd_stepM h, e1, e2]
  exact turn_still (col_at (marksB_iff.1 h).1 k h0) rfl

/-- The state of CarryOnce's loop: k wheels are done. -/
def Once (w : World) (c m : ByteArray) (g1 g2 : Nat) (i : Value) (wr : World) : Prop :=
  ∃ k : Nat, k + 1 ≤ c.size ∧ i = .int .i64 ((k : Int) + 1) ∧ Hid (Byt wr g1 (mix (stepC (bl c) (bl m)) (bl c) k)) ∧ Hid (Byt wr g2 (mix (stepM (bl c) (bl m)) (List.replicate c.size 48) k)) ∧ Hid (Below w.heap.size w wr)

set_option maxHeartbeats 2000000 in
theorem once_impl (c m : ByteArray) (w : World) (hc : c.size ≤ maxLen) (_hm : m.size ≤ maxLen) :
    Calls Try.prog 11 #[.string c, .string m] w fun e w' => e = .returned (.tuple #[.string (str (onceC (bl c) (bl m))), .string (str (onceM (bl c) (bl m))), .bool (marksB (bl c) (bl m))]) ∧ Below w.heap.size w w' := by
  have C1 := Lib.hid (fun W => marksFit_any c m W hc)
  cases h : marksB (bl c) (bl m)
  · rw [(once_no h).1, (once_no h).2]
    rw [h] at C1
    clear h
    go_enter Try.func11, Try.ntmps11
    go_wp2_with fail
    refine (C1.out _).mono ?_
    rintro e w' ⟨rfl, rfl⟩
    go_wp2_with fail
    go_ret3
    exact ⟨rfl, Below.refl _ _⟩
  · rw [(once_yes h).1, (once_yes h).2]
    rw [h] at C1
    have hl := marks_len h
    have hsl := step_len h
    simp only [length_bl] at hl hsl
    have hcol := (marksB_iff.1 h).1
    have hcz := col_size hcol
    have hcz1 : 1 ≤ c.size := hcz.1
    have hmz : m.size ≤ 12 := by omega
    have H := Lib.hid h; have HL := Lib.hid hl; have SL := Lib.hid hsl; have HC := Lib.hid hcol
    obtain ⟨cap1, w1, hcv1, hcap1, hb1, hw1⟩ := byt_new w c
    have C2 := Lib.hid (repeat_zeros c.size w1 hcz.1 hcz.2)
    have B1 := Lib.hid hb1; have V1 := Lib.hid hw1
    have R1 := hw1.size
    clear h hl hsl hcol hb1 hw1
    go_enter Try.func11, Try.ntmps11
    go_wp2_with fail
    refine (C1.out _).mono ?_
    rintro e w' ⟨rfl, rfl⟩
    go_wp2_with fail
    refine C2.out.mono ?_
    rintro e w2 ⟨rfl, hw2⟩
    obtain ⟨cap2, w3, hcv2, hcap2, hb3, hw3⟩ := byt_new w2 (str (List.replicate c.size 48))
    rw [bl_str] at hb3
    have hz2 : (str (List.replicate c.size (48 : UInt8))).size = c.size := by rw [size_str, List.length_replicate]
    rw [hz2] at hcv2 hcap2
    have hlt1 := B1.out.lt
    have R2 := hw2.size
    have hne : w.heap.size ≠ w2.heap.size := by omega
    have NE := Lib.hid hne
    have B1' := Lib.hid ((B1.out.keep hw2 hlt1).keep hw3 (by omega))
    have V3 := Lib.hid ((below_two V1.out hw2).trans (hw3.mono (by omega)))
    have ST : Hid (Once w c m w.heap.size w2.heap.size (.int .i64 1) w3) := Lib.hid ⟨0, hcz.1, rfl, by rw [mix_zero]; exact B1', by rw [mix_zero]; exact Lib.hid hb3, V3⟩
    clear hw2 hw3 hb3 hz2 hne
    generalize str (List.replicate c.size (48 : UInt8)) = zs at *
    generalize hg2 : w2.heap.size = g2 at *
    generalize hg1 : w.heap.size = g1 at *
    have L1 : w.heap.size ≤ g1 := by omega
    have L2 : w.heap.size ≤ g2 := by omega
    clear hg1 hg2
    go_wp2_with fail
    go_loopw [9] (fun i wr => Once w c m g1 g2 i wr) (fun i _ => c.size - (intOf i).toNat)
    case atStart => exact ST.out
    case round =>
      obtain ⟨k, hk, rfl, HB1, HB2, HV⟩ := hrel
      have hkc : k < c.size := by omega
      have q1 : k < (stepC (bl c) (bl m)).length := by rw [SL.out.1]; exact hkc
      have q2 : k < (stepM (bl c) (bl m)).length := by rw [SL.out.2]; exact hkc
      have q3 : k < (bl c).length := by rw [length_bl]; exact hkc
      have q4 : (bl c).length = (stepC (bl c) (bl m)).length := by rw [SL.out.1, length_bl]
      have q5 : (List.replicate c.size (48 : UInt8)).length = (stepM (bl c) (bl m)).length := by rw [SL.out.2, List.length_replicate]
      have q6 : k < (List.replicate c.size (48 : UInt8)).length := by rw [List.length_replicate]; exact hkc
      have q7 : k < (mix (stepC (bl c) (bl m)) (bl c) k).length := by rw [mix_length q4 k (by omega)]; exact q1
      have q8 : k < (mix (stepM (bl c) (bl m)) (List.replicate c.size 48) k).length := by rw [mix_length q5 k (by omega)]; exact q2
      have hd := col_at HC.out k hkc
      have hold1 := HB1.out.cell q7
      have e1 : (mix (stepC (bl c) (bl m)) (bl c) k)[k]'q7 = c[k]'hkc := mix_at q1 q7 q3
      rw [e1] at hold1
      have hfree1 := HB1.out.free q7
      have hold2 := HB2.out.cell q8
      have e2 : (mix (stepM (bl c) (bl m)) (List.replicate c.size 48) k)[k]'q8 = 48 := by rw [mix_at q2 q8 q6, List.getElem_replicate]
      rw [e2] at hold2
      have hfree2 := HB2.out.free q8
      have Q := Lib.hid (And.intro q1 (And.intro q2 (And.intro q3 (And.intro q4 (And.intro q5 q6)))))
      clear q1 q2 q3 q4 q5 q6 q7 q8 e1 e2
      by_cases hlt : k + 1 < c.size
      · have hlt' : (k : Int) + 1 < (c.size : Int) := by omega
        have hkm : k + 1 < m.size := by have := HL.out; omega
        have hmk := (marksB_iff.1 H.out).2.2 _ (mem_at (bl_at m (k + 1) hkm))
        have OA := Lib.hid (once_at H.out hkc hkm Q.out.1 Q.out.2.1)
        by_cases h49 : m[k + 1].toNat = 49
        · have t1 : ((m[k + 1].toNat : Int) != 49) = false := by simp [h49]
          by_cases h57 : c[k].toNat = 57
          · have t2 : ((c[k].toNat : Int) == 57) = true := by simp [h57]
            have T := turn_over h57 h49
            have N1 : Hid (Byt (wr.setCell ⟨g1, k, none⟩ (.int .u8 48)) g1 (mix (stepC (bl c) (bl m)) (bl c) (k + 1))) := by
              have h2 := HB1.out.put k 48
              have e : (stepC (bl c) (bl m))[k]'(Q.out.1) = 48 := by rw [OA.out.1, T.1]
              rw [← e, mix_set Q.out.2.2.2.1 Q.out.1, e] at h2
              exact h2
            have N2 : Hid (Byt ((wr.setCell ⟨g1, k, none⟩ (.int .u8 48)).setCell ⟨g2, k, none⟩ (.int .u8 49)) g2 (mix (stepM (bl c) (bl m)) (List.replicate c.size 48) (k + 1))) := by
              have h2 := (HB2.out.other (g' := g1) (fun e => NE.out e.symm) k (.int .u8 48)).put k 49
              have e : (stepM (bl c) (bl m))[k]'(Q.out.2.1) = 49 := by rw [OA.out.2, T.2]
              rw [← e, mix_set Q.out.2.2.2.2.1 Q.out.2.1, e] at h2
              exact h2
            have N3 := Lib.hid (N1.out.other (g' := g2) NE.out k (.int .u8 49))
            have N4 := Lib.hid ((HV.out.setCell (p := ⟨g1, k, none⟩) L1 (.int .u8 48)).setCell (p := ⟨g2, k, none⟩) L2 (.int .u8 49))
            clear h57 h49 T hmk
            go_wp2_with fail
            go_roundw
            case rel => exact ⟨k + 1, by omega, by go_num, N3, N2, N4⟩
            case measure => simp [intOf] <;> omega
          · have t2 : ((c[k].toNat : Int) == 57) = false := by simp; omega
            have T := turn_up hd h57 h49
            have N1 : Hid (Byt (wr.setCell ⟨g1, k, none⟩ (.int .u8 ((c[k].toNat : Int) + 1))) g1 (mix (stepC (bl c) (bl m)) (bl c) (k + 1))) := by
              have h2 := HB1.out.put k (turnD c[k] m[k + 1])
              rw [← OA.out.1, mix_set Q.out.2.2.2.1 Q.out.1, OA.out.1, T.1, Int.natCast_add] at h2
              exact h2
            have N2 : Hid (Byt (wr.setCell ⟨g1, k, none⟩ (.int .u8 ((c[k].toNat : Int) + 1))) g2 (mix (stepM (bl c) (bl m)) (List.replicate c.size 48) (k + 1))) := by
              have e : (stepM (bl c) (bl m))[k]'(Q.out.2.1) = (List.replicate c.size (48 : UInt8))[k]'(Q.out.2.2.2.2.2) := by rw [OA.out.2, T.2, List.getElem_replicate]
              rw [mix_same Q.out.2.2.2.2.1 Q.out.2.1 Q.out.2.2.2.2.2 e]
              exact HB2.out.other (g' := g1) (fun e => NE.out e.symm) k _
            have N4 := Lib.hid (HV.out.setCell (p := ⟨g1, k, none⟩) L1 (.int .u8 ((c[k].toNat : Int) + 1)))
            have h9 : c[k].toNat ≤ 56 := by omega
            clear h57 h49 T hmk
            go_wp2_with fail
            go_roundw
            case rel => exact ⟨k + 1, by omega, by go_num, N1, N2, N4⟩
            case measure => simp [intOf] <;> omega
        · have t1 : ((m[k + 1].toNat : Int) != 49) = true := by simp; omega
          have T := turn_still hd (show m[k + 1].toNat = 48 by omega)
          have N1 : Hid (Byt wr g1 (mix (stepC (bl c) (bl m)) (bl c) (k + 1))) := by
            have e : (stepC (bl c) (bl m))[k]'(Q.out.1) = (bl c)[k]'(Q.out.2.2.1) := by rw [OA.out.1, T.1]; rfl
            rw [mix_same Q.out.2.2.2.1 Q.out.1 Q.out.2.2.1 e]
            exact HB1
          have N2 : Hid (Byt wr g2 (mix (stepM (bl c) (bl m)) (List.replicate c.size 48) (k + 1))) := by
            have e : (stepM (bl c) (bl m))[k]'(Q.out.2.1) = (List.replicate c.size (48 : UInt8))[k]'(Q.out.2.2.2.2.2) := by rw [OA.out.2, T.2, List.getElem_replicate]
            rw [mix_same Q.out.2.2.2.2.1 Q.out.2.1 Q.out.2.2.2.2.2 e]
            exact HB2
          clear h49 T hmk
          go_wp2_with fail
          go_roundw
          case rel => exact ⟨k + 1, by omega, by go_num, N1, N2, HV⟩
          case measure => simp [intOf] <;> omega
      · have hlt' : ¬ (k : Int) + 1 < (c.size : Int) := by omega
        have hk1 : k + 1 = c.size := by omega
        have L := once_last H.out hk1 hkc Q.out.1 Q.out.2.1
        have N1 : Byt wr g1 (stepC (bl c) (bl m)) := by
          have e : (stepC (bl c) (bl m))[k]'(Q.out.1) = (bl c)[k]'(Q.out.2.2.1) := by rw [L.1]; rfl
          have h2 := HB1.out
          rw [← mix_same Q.out.2.2.2.1 Q.out.1 Q.out.2.2.1 e, show k + 1 = (stepC (bl c) (bl m)).length by rw [SL.out.1]; exact hk1, mix_all Q.out.2.2.2.1] at h2
          exact h2
        have N2 : Byt wr g2 (stepM (bl c) (bl m)) := by
          have e : (stepM (bl c) (bl m))[k]'(Q.out.2.1) = (List.replicate c.size (48 : UInt8))[k]'(Q.out.2.2.2.2.2) := by rw [L.2, List.getElem_replicate]
          have h2 := HB2.out
          rw [← mix_same Q.out.2.2.2.2.1 Q.out.2.1 Q.out.2.2.2.2.2 e, show k + 1 = (stepM (bl c) (bl m)).length by rw [SL.out.2]; exact hk1, mix_all Q.out.2.2.2.2.1] at h2
          exact h2
        have v1 := fun (W : World) (h : Byt W g1 (stepC (bl c) (bl m))) => byt_string h c.size cap1 SL.out.1.symm
        have v2 := fun (W : World) (h : Byt W g2 (stepM (bl c) (bl m))) => byt_string h c.size cap2 SL.out.2.symm
        have f1 := v1 wr N1
        have f2 := v2 wr N2
        have f3 := v1 wr.drew N1
        have f4 := v2 wr.drew N2
        have SS := Lib.hid (And.intro N1 N2)
        clear v1 v2 N1 N2 L hold1 hold2 hfree1 hfree2 hlt hk1
        go_wp2_with fail
        go_region
        go_wp2_with fail
        go_ret3
        exact ⟨rfl, HV.out.drew⟩

theorem ret_tri {a a' : ByteArray} {x y : Int} {z : Bool} (h1 : a = a') (h2 : x = y) : Ending.returned (.tuple #[.string a, .int .i64 x, .bool z]) = .returned (.tuple #[.string a', .int .i64 y, .bool z]) := by rw [h1, h2]
/-- What CarryAll returns. -/
def allN (c m : List UInt8) : Int := if marksB c m = true then (stopF c.length c m : Int) else 0
theorem all_no {c m : List UInt8} (h : marksB c m = false) : aheadL c m = [] ∧ allN c m = 0 := by unfold aheadL allN; rw [h]; exact ⟨rfl, rfl⟩
theorem all_yes {c m : List UInt8} (h : marksB c m = true) : allN c m = stopF c.length c m ∧ endF c.length c m = aheadL c m := by
  refine ⟨if_pos h, end_ahead _ _ _ h ?_⟩
  have := lastOne_le m
  have := marks_len h
  omega

/-- The state of CarryAll's loop: k times are done; f are enough for the rest. -/
def Alling (w : World) (c m : List UInt8) (cv mv kv : Value) (wr : World) : Prop :=
  ∃ (cs ms : ByteArray) (k f : Nat), cv = .string cs ∧ mv = .string ms ∧ kv = .int .i64 (k : Int) ∧ Hid (marksB (bl cs) (bl ms) = true) ∧ Hid (lastOne (bl ms) ≤ f) ∧ k ≤ 100 ∧
    Hid (k + stopF f (bl cs) (bl ms) = stopF c.length c m) ∧ Hid (endF f (bl cs) (bl ms) = endF c.length c m) ∧ Hid (Below w.heap.size w wr)
theorem alling_step {c m : List UInt8} {cs ms : ByteArray} {k f : Nat} (h : marksB (bl cs) (bl ms) = true) (h0 : lastOne (bl ms) ≤ f) (hk : k + stopF f (bl cs) (bl ms) = stopF c.length c m) (he : endF f (bl cs) (bl ms) = endF c.length c m)
    (hz : lastOne (bl ms) ≠ 0) : ∃ f', f = f' + 1 ∧ marksB (stepC (bl cs) (bl ms)) (stepM (bl cs) (bl ms)) = true ∧ lastOne (stepM (bl cs) (bl ms)) ≤ f' ∧ k + 1 + stopF f' (stepC (bl cs) (bl ms)) (stepM (bl cs) (bl ms)) = stopF c.length c m ∧
      endF f' (stepC (bl cs) (bl ms)) (stepM (bl cs) (bl ms)) = endF c.length c m := by
  obtain ⟨f', rfl⟩ : ∃ f', f = f' + 1 := ⟨f - 1, by omega⟩
  have hd := step_down h
  have hs := stop_step (f := f') (c := bl cs) hz
  exact ⟨f', rfl, step_marks h, by omega, by omega, by rw [← hs.2]; exact he⟩

set_option maxHeartbeats 2000000 in
theorem all_spec (c m : ByteArray) (w : World) (hc : c.size ≤ maxLen) (hm : m.size ≤ maxLen) :
    Calls Try.prog 12 #[.string c, .string m] w fun e w' => e = .returned (.tuple #[.string (str (aheadL (bl c) (bl m))), .int .i64 (allN (bl c) (bl m)), .bool (marksB (bl c) (bl m))]) ∧ Below w.heap.size w w' := by
  have C1 := Lib.hid (fun W => l1Flags_any c m W hc hm)
  cases h : marksB (bl c) (bl m)
  · rw [(all_no h).1, (all_no h).2]
    rw [h] at C1
    clear h
    go_enter Try.func12, Try.ntmps12
    go_wp2_with fail
    refine (C1.out _).mono ?_
    rintro e w' ⟨rfl, rfl⟩
    go_wp2_with fail
    go_ret3
    exact ⟨rfl, Below.refl _ _⟩
  · rw [h] at C1
    have hl := marks_len h
    simp only [length_bl] at hl
    have hA := all_yes h
    rw [← hA.2, hA.1]
    have hN := stop_le (bl c).length (bl c) (bl m)
    rw [length_bl] at hN
    have hN2 : stopF c.size (bl c) (bl m) ≤ 12 := by omega
    have ST : Hid (Alling w (bl c) (bl m) (.string c) (.string m) (.int .i64 0) w) := Lib.hid ⟨c, m, 0, (bl c).length, rfl, rfl, rfl, Lib.hid h, Lib.hid (by have := lastOne_le (bl m); simp only [length_bl] at this ⊢; omega), by omega, Lib.hid (by omega), Lib.hid rfl, Lib.hid (Below.refl _ _)⟩
    clear h hl hA hN
    rw [length_bl] at *
    go_enter Try.func12, Try.ntmps12
    go_wp2_with fail
    refine (C1.out _).mono ?_
    rintro e w' ⟨rfl, rfl⟩
    go_wp2_with fail
    go_loopw [0, 1, 7] (fun cv mv kv wr => Alling w (bl c) (bl m) cv mv kv wr) (fun _ _ kv _ => 13 - (intOf kv).toNat)
    case atStart => exact ST.out
    case round =>
      obtain ⟨cs, ms, k, f, rfl, rfl, rfl, H, H0, hk, HK, HE, HV⟩ := hrel
      have hl := marks_len H.out
      simp only [length_bl] at hl
      have hv := val_marks (bl ms) (marksB_iff.1 H.out).2.2
      have hmb : ms.size ≤ 12 := by omega
      have hmc : cs.size ≤ maxLen := by unfold maxLen; omega
      have hmm : ms.size ≤ maxLen := by unfold maxLen; omega
      have V := Lib.hid (l1Value_any ms wr hmb (marks_dig (marksB_iff.1 H.out).2.2))
      by_cases hz : lastOne (bl ms) = 0
      · rw [hv.1.2 hz] at V
        have hd := stop_done (f := f) (c := bl cs) hz
        have hk1 := HK.out
        have he1 := HE.out
        rw [hd.1, Nat.add_zero, length_bl] at hk1
        rw [hd.2, length_bl] at he1
        have K1 := Lib.hid hk1; have E1 := Lib.hid he1
        clear hd hk1 he1 hz hv hl
        go_wp2_with fail
        refine V.out.mono ?_
        rintro e w' ⟨rfl, rfl⟩
        go_wp2_with fail
        go_ret3
        exact ⟨ret_tri (by rw [← E1.out, str_bl]) (by rw [← K1.out]), HV.out⟩
      · obtain ⟨f', rfl, s1, s2, s3, s4⟩ := alling_step H.out H0.out HK.out HE.out hz
        have C2 := Lib.hid (once_spec cs ms wr hmc hmm)
        rw [(once_yes H.out).1, (once_yes H.out).2, H.out] at C2
        have hv0 : ¬ val (bl ms) = 0 := fun e => hz (hv.1.1 e)
        have hv1 : 0 < val (bl ms) := by omega
        have hk2 : k + 1 ≤ 12 := by rw [length_bl] at s3; omega
        have N : Hid (∀ w2, Below w.heap.size w w2 → Alling w (bl c) (bl m) (.string (str (stepC (bl cs) (bl ms)))) (.string (str (stepM (bl cs) (bl ms)))) (.int .i64 ((k : Int) + 1)) w2) :=
          Lib.hid fun w2 hb => ⟨_, _, k + 1, f', rfl, rfl, rfl, by rw [bl_str, bl_str]; exact Lib.hid s1, by rw [bl_str]; exact Lib.hid s2, by omega, by rw [bl_str, bl_str]; exact Lib.hid s3, by rw [bl_str, bl_str]; exact Lib.hid s4, Lib.hid hb⟩
        generalize val (bl ms) = v at *
        clear s1 s2 s3 s4 hz hv0 hl hv
        go_wp2_with fail
        refine V.out.mono ?_
        rintro e w' ⟨rfl, rfl⟩
        go_wp2_with fail
        refine C2.out.mono ?_
        rintro e w2 ⟨rfl, hw2⟩
        have W2 := Lib.hid (HV.out.trans (hw2.mono HV.out.size)); clear hw2
        generalize str (stepC (bl cs) (bl ms)) = cs2 at *
        generalize str (stepM (bl cs) (bl ms)) = ms2 at *
        go_wp2_with fail
        go_roundw
        case rel => exact N.out _ W2.out
        case measure => simp [intOf] <;> omega

theorem clone_str (s : ByteArray) (W : World) (hs : s.size ≤ 1000000) : Calls Try.prog 33 #[.string s] W fun e w' => e = .returned (.string s) ∧ Below W.heap.size W w' := by
  have C := Lib.hid (fun W => Try.stringslite_Clone s W (by omega))
  go_enter Try.func33, Try.ntmps33
  go_wp2_with fail
  refine (C.out _).mono ?_
  rintro e w' ⟨rfl, hw⟩
  have B := Lib.hid hw; clear hw
  go_wp2_with fail
  go_ret
  exact ⟨rfl, B.out⟩

set_option maxHeartbeats 2000000 in
theorem all_impl (c m : ByteArray) (w : World) (hc : c.size ≤ maxLen) (_hm : m.size ≤ maxLen) :
    Calls Try.prog 13 #[.string c, .string m] w fun e w' => e = .returned (.tuple #[.string (str (aheadL (bl c) (bl m))), .int .i64 (allN (bl c) (bl m)), .bool (marksB (bl c) (bl m))]) ∧ Below w.heap.size w w' := by
  have C1 := Lib.hid (fun W => marksFit_any c m W hc)
  cases h : marksB (bl c) (bl m)
  · rw [(all_no h).1, (all_no h).2]
    rw [h] at C1
    clear h
    go_enter Try.func13, Try.ntmps13
    go_wp2_with fail
    refine (C1.out _).mono ?_
    rintro e w' ⟨rfl, rfl⟩
    go_wp2_with fail
    go_ret3
    exact ⟨rfl, Below.refl _ _⟩
  · rw [h] at C1
    have hl := marks_len h
    simp only [length_bl] at hl
    have hA := all_yes h
    rw [← hA.2, hA.1]
    have hN := stop_le (bl c).length (bl c) (bl m)
    rw [length_bl] at hN
    have hN2 : stopF c.size (bl c) (bl m) ≤ 12 := by omega
    have ST : Hid (Alling w (bl c) (bl m) (.string c) (.string m) (.int .i64 0) w) := Lib.hid ⟨c, m, 0, (bl c).length, rfl, rfl, rfl, Lib.hid h, Lib.hid (by have := lastOne_le (bl m); simp only [length_bl] at this ⊢; omega), by omega, Lib.hid (by omega), Lib.hid rfl, Lib.hid (Below.refl _ _)⟩
    clear h hl hA hN
    rw [length_bl] at *
    go_enter Try.func13, Try.ntmps13
    go_wp2_with fail
    refine (C1.out _).mono ?_
    rintro e w' ⟨rfl, rfl⟩
    go_wp2_with fail
    go_loopw [0, 1, 7] (fun cv mv kv wr => Alling w (bl c) (bl m) cv mv kv wr) (fun _ _ kv _ => 13 - (intOf kv).toNat)
    case atStart => exact ST.out
    case round =>
      obtain ⟨cs, ms, k, f, rfl, rfl, rfl, H, H0, hk, HK, HE, HV⟩ := hrel
      have hl := marks_len H.out
      simp only [length_bl] at hl
      have hmc : cs.size ≤ maxLen := by unfold maxLen; omega
      have hmm : ms.size ≤ maxLen := by unfold maxLen; omega
      have V := Lib.hid (Try.strings_Contains_one ms 49 wr)
      have hi := index_one ms.data.toList
      by_cases hz : lastOne (bl ms) = 0
      · rw [decide_eq_false (fun h => hi.1 h hz)] at V
        have hd := stop_done (f := f) (c := bl cs) hz
        have hk1 := HK.out
        have he1 := HE.out
        rw [hd.1, Nat.add_zero, length_bl] at hk1
        rw [hd.2, length_bl] at he1
        have K1 := Lib.hid hk1; have E1 := Lib.hid he1
        have C3 := Lib.hid (fun W => clone_str cs W (by omega))
        clear hd hk1 he1 hz hl hi
        go_wp2_with fail
        refine V.out.mono ?_
        rintro e w' ⟨rfl, rfl⟩
        go_wp2_with fail
        refine (C3.out _).mono ?_
        rintro e w2 ⟨rfl, hw2⟩
        have W2 := Lib.hid (HV.out.trans (hw2.mono HV.out.size)); clear hw2
        go_wp2_with fail
        go_ret3
        exact ⟨ret_tri (by rw [← E1.out, str_bl]) (by rw [← K1.out]), W2.out⟩
      · rw [decide_eq_true (hi.2 hz)] at V
        obtain ⟨f', rfl, s1, s2, s3, s4⟩ := alling_step H.out H0.out HK.out HE.out hz
        have C2 := Lib.hid (fun W => once_impl cs ms W hmc hmm)
        rw [(once_yes H.out).1, (once_yes H.out).2, H.out] at C2
        have hk2 : k + 1 ≤ 12 := by rw [length_bl] at s3; omega
        have N : Hid (∀ w2, Below w.heap.size w w2 → Alling w (bl c) (bl m) (.string (str (stepC (bl cs) (bl ms)))) (.string (str (stepM (bl cs) (bl ms)))) (.int .i64 ((k : Int) + 1)) w2) :=
          Lib.hid fun w2 hb => ⟨_, _, k + 1, f', rfl, rfl, rfl, by rw [bl_str, bl_str]; exact Lib.hid s1, by rw [bl_str]; exact Lib.hid s2, by omega, by rw [bl_str, bl_str]; exact Lib.hid s3, by rw [bl_str, bl_str]; exact Lib.hid s4, Lib.hid hb⟩
        clear s1 s2 s3 s4 hz hl hi
        go_wp2_with fail
        refine V.out.mono ?_
        rintro e w' ⟨rfl, rfl⟩
        go_wp2_with fail
        refine (C2.out _).mono ?_
        rintro e w2 ⟨rfl, hw2⟩
        have W2 := Lib.hid (HV.out.trans (hw2.mono HV.out.size)); clear hw2
        generalize str (stepC (bl cs) (bl ms)) = cs2 at *
        generalize str (stepM (bl cs) (bl ms)) = ms2 at *
        go_wp2_with fail
        go_roundw
        case rel => exact N.out _ W2.out
        case measure => simp [intOf] <;> omega

/-- What CarryTimes returns. -/
def timesN (a b : List UInt8) : Int := if alikeB a b = true then allN (turnW a b) (warnW a b) else -1
theorem times_no {a b : List UInt8} (h : alikeB a b = false) : timesN a b = -1 := by unfold timesN; rw [h]; rfl
theorem times_yes {a b : List UInt8} (h : alikeB a b = true) : timesN a b = allN (turnW a b) (warnW a b) := if_pos h

set_option maxHeartbeats 1000000 in
theorem times_spec (a b : ByteArray) (w : World) (ha : a.size ≤ maxLen) (hb : b.size ≤ maxLen) :
    Calls Try.prog 14 #[.string a, .string b] w fun e w' => e = .returned (.int .i64 (timesN (bl a) (bl b))) ∧ Below w.heap.size w w' := by
  have C1 := Lib.hid (fun W => turn_spec a b W ha hb)
  have C2 := Lib.hid (fun W => warn_spec a b W ha hb)
  have B := Lib.hid (Below.refl w.heap.size w)
  cases h : alikeB (bl a) (bl b)
  · rw [times_no h]
    rw [h] at C1
    clear h
    go_enter Try.func14, Try.ntmps14
    go_wp2_with fail
    refine (C1.out _).mono ?_
    rintro e w' ⟨rfl, hw⟩
    have B := Lib.hid (below_two B.out hw); clear hw
    go_wp2_with fail
    go_ret
    exact ⟨rfl, B.out⟩
  · rw [times_yes h]
    have hl := (alikeB_iff.1 h).2.2
    have hz := col_size (alikeB_iff.1 h).1
    have hT : turnL (bl a) (bl b) = turnW (bl a) (bl b) := by unfold turnL; rw [if_pos h]
    have hW : warnL (bl a) (bl b) = warnW (bl a) (bl b) := by unfold warnL; rw [if_pos h]
    obtain ⟨c, hc⟩ : ∃ c, c = str (turnW (bl a) (bl b)) := ⟨_, rfl⟩
    obtain ⟨m, hm⟩ : ∃ m, m = str (warnW (bl a) (bl b)) := ⟨_, rfl⟩
    have hsc : c.size ≤ maxLen := by rw [hc, size_str, turnW_length hl, length_bl]; exact ha
    have hsm : m.size ≤ maxLen := by rw [hm, size_str, warnW_length hl, length_bl]; exact ha
    have C3 := Lib.hid (fun W => all_spec c m W hsc hsm)
    have hbc : bl c = turnW (bl a) (bl b) := by rw [hc, bl_str]
    have hbm : bl m = warnW (bl a) (bl b) := by rw [hm, bl_str]
    rw [h, hT, ← hc] at C1
    rw [h, hW, ← hm] at C2
    rw [hbc, hbm, pair_marks h] at C3
    generalize str (aheadL (turnW (bl a) (bl b)) (warnW (bl a) (bl b))) = q at *
    generalize allN (turnW (bl a) (bl b)) (warnW (bl a) (bl b)) = n at *
    clear h hl hT hW hc hm hbc hbm
    go_enter Try.func14, Try.ntmps14
    go_wp2_with fail
    refine (C1.out _).mono ?_
    rintro e w' ⟨rfl, hw⟩
    have B := Lib.hid (below_two B.out hw); clear hw
    go_wp2_with fail
    refine (C2.out _).mono ?_
    rintro e w' ⟨rfl, hw⟩
    have B := Lib.hid (below_two B.out hw); clear hw
    go_wp2_with fail
    refine (C3.out _).mono ?_
    rintro e w' ⟨rfl, hw⟩
    have B := Lib.hid (below_two B.out hw); clear hw
    go_wp2_with fail
    go_ret
    exact ⟨rfl, B.out⟩

set_option maxHeartbeats 1000000 in
theorem times_impl (a b : ByteArray) (w : World) (ha : a.size ≤ maxLen) (hb : b.size ≤ maxLen) :
    Calls Try.prog 15 #[.string a, .string b] w fun e w' => e = .returned (.int .i64 (timesN (bl a) (bl b))) ∧ Below w.heap.size w w' := by
  have C1 := Lib.hid (fun W => turn_impl a b W ha hb)
  have C2 := Lib.hid (fun W => warn_impl a b W ha hb)
  have B := Lib.hid (Below.refl w.heap.size w)
  cases h : alikeB (bl a) (bl b)
  · rw [times_no h]
    rw [h] at C1
    clear h
    go_enter Try.func15, Try.ntmps15
    go_wp2_with fail
    refine (C1.out _).mono ?_
    rintro e w' ⟨rfl, hw⟩
    have B := Lib.hid (below_two B.out hw); clear hw
    go_wp2_with fail
    go_ret
    exact ⟨rfl, B.out⟩
  · rw [times_yes h]
    have hl := (alikeB_iff.1 h).2.2
    have hz := col_size (alikeB_iff.1 h).1
    have hT : turnL (bl a) (bl b) = turnW (bl a) (bl b) := by unfold turnL; rw [if_pos h]
    have hW : warnL (bl a) (bl b) = warnW (bl a) (bl b) := by unfold warnL; rw [if_pos h]
    obtain ⟨c, hc⟩ : ∃ c, c = str (turnW (bl a) (bl b)) := ⟨_, rfl⟩
    obtain ⟨m, hm⟩ : ∃ m, m = str (warnW (bl a) (bl b)) := ⟨_, rfl⟩
    have hsc : c.size ≤ maxLen := by rw [hc, size_str, turnW_length hl, length_bl]; exact ha
    have hsm : m.size ≤ maxLen := by rw [hm, size_str, warnW_length hl, length_bl]; exact ha
    have C3 := Lib.hid (fun W => all_impl c m W hsc hsm)
    have hbc : bl c = turnW (bl a) (bl b) := by rw [hc, bl_str]
    have hbm : bl m = warnW (bl a) (bl b) := by rw [hm, bl_str]
    rw [h, hT, ← hc] at C1
    rw [h, hW, ← hm] at C2
    rw [hbc, hbm, pair_marks h] at C3
    generalize str (aheadL (turnW (bl a) (bl b)) (warnW (bl a) (bl b))) = q at *
    generalize allN (turnW (bl a) (bl b)) (warnW (bl a) (bl b)) = n at *
    clear h hl hT hW hc hm hbc hbm
    go_enter Try.func15, Try.ntmps15
    go_wp2_with fail
    refine (C1.out _).mono ?_
    rintro e w' ⟨rfl, hw⟩
    have B := Lib.hid (below_two B.out hw); clear hw
    go_wp2_with fail
    refine (C2.out _).mono ?_
    rintro e w' ⟨rfl, hw⟩
    have B := Lib.hid (below_two B.out hw); clear hw
    go_wp2_with fail
    refine (C3.out _).mono ?_
    rintro e w' ⟨rfl, hw⟩
    have B := Lib.hid (below_two B.out hw); clear hw
    go_wp2_with fail
    go_ret
    exact ⟨rfl, B.out⟩
end Go.Proofs.Ytghgienpkffcbaa
