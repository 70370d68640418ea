/- Carries in sequence: one time of carries, how often they follow each other, what they end in. Plain Lean: no program. -/
import Derived.Test.YtghgienpkffcbaaColLaws
namespace Go.Proofs.Ytghgienpkffcbaa

/-- The wheel at a place; beyond the last one: 0. -/
def gd (l : List UInt8) (i : Nat) : UInt8 := l.getD i 48
theorem gd_at {l : List UInt8} {i : Nat} (h : i < l.length) : gd l i = l[i] := by
  unfold gd; rw [List.getD_eq_getElem?_getD, List.getElem?_eq_getElem h]; rfl
theorem gd_out {l : List UInt8} {i : Nat} (h : l.length ≤ i) : gd l i = 48 := by
  unfold gd; rw [List.getD_eq_getElem?_getD, List.getElem?_eq_none h]; rfl
theorem gd_up (m : List UInt8) (i : Nat) (h : 1 ≤ m.length) : gd (upL m) i = gd m (i + 1) := by
  have hl := upL_length h
  by_cases h1 : i + 1 < m.length
  · rw [gd_at (by omega), gd_at h1, upL_at h1]
  · rw [gd_out (l := m) (by omega)]
    by_cases h2 : i + 1 = m.length
    · rw [gd_at (by omega), upL_last h2]
    · rw [gd_out (by omega)]
theorem gd_turn {a b : List UInt8} (h : a.length = b.length) (i : Nat) : gd (turnW a b) i = turnD (gd a i) (gd b i) := by
  have hl : (turnW a b).length = a.length := by simp [turnW, h]
  by_cases h1 : i < a.length
  · rw [gd_at h1, gd_at (l := b) (by omega), gd_at (l := turnW a b) (by omega)]; simp [turnW]
  · rw [gd_out (l := a) (by omega), gd_out (l := b) (by omega), gd_out (l := turnW a b) (by omega)]; rfl
theorem gd_warn {a b : List UInt8} (h : a.length = b.length) (i : Nat) : gd (warnW a b) i = warnD (gd a i) (gd b i) := by
  have hl : (warnW a b).length = a.length := by simp [warnW, h]
  by_cases h1 : i < a.length
  · rw [gd_at h1, gd_at (l := b) (by omega), gd_at (l := warnW a b) (by omega)]; simp [warnW]
  · rw [gd_out (l := a) (by omega), gd_out (l := b) (by omega), gd_out (l := warnW a b) (by omega)]; rfl
theorem gd_all {P : UInt8 → Prop} {l : List UInt8} (h : ∀ x ∈ l, P x) (h0 : P 48) (i : Nat) : P (gd l i) := by
  by_cases h1 : i < l.length
  · rw [gd_at h1]; exact h _ (List.getElem_mem h1)
  · rw [gd_out (by omega)]; exact h0
theorem all_gd {P : UInt8 → Prop} {l : List UInt8} (h : ∀ i, P (gd l i)) : ∀ x ∈ l, P x := by
  intro x hx
  obtain ⟨i, hi, rfl⟩ := List.getElem_of_mem hx
  rw [← gd_at hi]; exact h i
theorem gd_ext {a b : List UInt8} (hl : a.length = b.length) (h : ∀ i, gd a i = gd b i) : a = b := by
  apply List.ext_getElem hl
  intro i h1 h2
  rw [← gd_at h1, ← gd_at h2, h]
theorem turnD_dig (x y : UInt8) : 48 ≤ (turnD x y).toNat ∧ (turnD x y).toNat ≤ 57 := by
  unfold turnD; rw [UInt8.toNat_ofNat']; omega
theorem warnD_mark (x y : UInt8) : (warnD x y).toNat = 48 ∨ (warnD x y).toNat = 49 := by
  unfold warnD; split
  · exact .inr rfl
  · exact .inl rfl

/-- One time of carries. -/
def stepC (c m : List UInt8) : List UInt8 := turnW c (upL m)
def stepM (c m : List UInt8) : List UInt8 := warnW c (upL m)
theorem marks_len {c m : List UInt8} (h : marksB c m = true) : 1 ≤ m.length ∧ m.length = c.length ∧ c.length = (upL m).length ∧ c.length ≤ 12 := by
  have h1 := marksB_iff.1 h
  have h2 := colB_len h1.1
  have h3 := upL_length (m := m) (by omega)
  omega
theorem step_len {c m : List UInt8} (h : marksB c m = true) : (stepC c m).length = c.length ∧ (stepM c m).length = c.length := by
  have hl := marks_len h
  unfold stepC stepM turnW warnW
  rw [List.length_zipWith, List.length_zipWith]; omega
theorem gd_stepC {c m : List UInt8} (h : marksB c m = true) (i : Nat) : gd (stepC c m) i = turnD (gd c i) (gd m (i + 1)) := by
  have hl := marks_len h
  unfold stepC; rw [gd_turn hl.2.2.1, gd_up _ _ hl.1]
theorem gd_stepM {c m : List UInt8} (h : marksB c m = true) (i : Nat) : gd (stepM c m) i = warnD (gd c i) (gd m (i + 1)) := by
  have hl := marks_len h
  unfold stepM; rw [gd_warn hl.2.2.1, gd_up _ _ hl.1]
theorem pair_marks {a b : List UInt8} (h : alikeB a b = true) : marksB (turnW a b) (warnW a b) = true := by
  obtain ⟨ha, hb, hl⟩ := alikeB_iff.1 h
  have hz := colB_len ha
  have l1 : (turnW a b).length = a.length := by simp [turnW, hl]
  have l2 : (warnW a b).length = a.length := by simp [warnW, hl]
  refine marksB_iff.2 ⟨colB_mk (by omega) (by omega) (all_gd fun i => ?_), by omega, all_gd fun i => ?_⟩
  · rw [gd_turn hl]; exact turnD_dig _ _
  · rw [gd_warn hl]; exact warnD_mark _ _
theorem step_marks {c m : List UInt8} (h : marksB c m = true) : marksB (stepC c m) (stepM c m) = true := pair_marks (upL_col h).2.2

/-- The place behind the last mark. -/
def lastOne : List UInt8 → Nat
  | [] => 0
  | x :: l => if lastOne l = 0 then (if x.toNat = 49 then 1 else 0) else lastOne l + 1
theorem lastOne_le (l : List UInt8) : lastOne l ≤ l.length := by
  induction l with
  | nil => exact Nat.le_refl _
  | cons x l ih => rw [lastOne, List.length_cons]; split <;> (try split) <;> omega
theorem gd_cons (x : UInt8) (l : List UInt8) (i : Nat) : gd (x :: l) (i + 1) = gd l i := rfl
theorem lastOne_iff (l : List UInt8) : ∀ j, lastOne l ≤ j ↔ ∀ i, j ≤ i → (gd l i).toNat ≠ 49 := by
  induction l with
  | nil =>
    intro j
    constructor
    · intro _ i _; rw [gd_out (Nat.zero_le _)]; decide
    · intro _; exact Nat.zero_le _
  | cons x l ih =>
    intro j
    rw [lastOne]
    have h0 := ih 0
    cases j with
    | zero =>
      constructor
      · intro h i _
        split at h
        · rename_i hz
          split at h
          · omega
          · cases i with
            | zero => assumption
            | succ i => exact h0.1 (by omega) i (Nat.zero_le _)
        · omega
      · intro h
        have hz : lastOne l = 0 := by
          have := h0.2 (fun i _ => h (i + 1) (Nat.zero_le _)); omega
        have hx : x.toNat ≠ 49 := h 0 (Nat.le_refl _)
        rw [if_pos hz, if_neg hx]
        exact Nat.le_refl _
    | succ j =>
      have hj := ih j
      constructor
      · intro h i hi
        cases i with
        | zero => omega
        | succ i =>
          refine hj.1 ?_ i (by omega)
          split at h
          · omega
          · omega
      · intro h
        have := hj.2 (fun i hi => h (i + 1) (by omega))
        split
        · split <;> omega
        · omega
theorem dig_gd {c : List UInt8} (h : colB c = true) (i : Nat) : 48 ≤ (gd c i).toNat ∧ (gd c i).toNat ≤ 57 := gd_all (colB_dig h) (by decide) i
theorem mark_gd {c m : List UInt8} (h : marksB c m = true) (i : Nat) : (gd m i).toNat = 48 ∨ (gd m i).toNat = 49 := gd_all (marksB_iff.1 h).2.2 (.inl rfl) i
theorem warn_iff {x y : UInt8} (hx : 48 ≤ x.toNat ∧ x.toNat ≤ 57) (hy : y.toNat = 48 ∨ y.toNat = 49) : (warnD x y).toNat = 49 ↔ x.toNat = 57 ∧ y.toNat = 49 := by
  unfold warnD; split
  · exact ⟨fun _ => by omega, fun _ => rfl⟩
  · constructor
    · intro h; exact absurd h (by decide)
    · intro h; omega
theorem step_down {c m : List UInt8} (h : marksB c m = true) : lastOne (stepM c m) ≤ lastOne m - 1 := by
  rw [lastOne_iff]
  intro i hi
  rw [gd_stepM h]
  intro hw
  have h1 := (warn_iff (dig_gd (marksB_iff.1 h).1 i) (mark_gd h (i + 1))).1 hw
  exact (lastOne_iff m (lastOne m)).1 (Nat.le_refl _) (i + 1) (by omega) h1.2

/-- How often carries follow each other, and what they end in, within f times. -/
def stopF : Nat → List UInt8 → List UInt8 → Nat
  | 0, _, _ => 0
  | f + 1, c, m => if lastOne m = 0 then 0 else stopF f (stepC c m) (stepM c m) + 1
def endF : Nat → List UInt8 → List UInt8 → List UInt8
  | 0, c, _ => c
  | f + 1, c, m => if lastOne m = 0 then c else endF f (stepC c m) (stepM c m)
theorem stop_le (f : Nat) : ∀ c m, stopF f c m ≤ f := by
  induction f with
  | zero => intro c m; exact Nat.le_refl _
  | succ f ih => intro c m; rw [stopF]; split
                 · exact Nat.zero_le _
                 · have := ih (stepC c m) (stepM c m); omega
theorem stop_done {f : Nat} {c m : List UInt8} (h : lastOne m = 0) : stopF f c m = 0 ∧ endF f c m = c := by
  cases f with
  | zero => exact ⟨rfl, rfl⟩
  | succ f => rw [stopF, endF, if_pos h, if_pos h]; exact ⟨rfl, rfl⟩
theorem stop_step {f : Nat} {c m : List UInt8} (h : lastOne m ≠ 0) : stopF (f + 1) c m = stopF f (stepC c m) (stepM c m) + 1 ∧ endF (f + 1) c m = endF f (stepC c m) (stepM c m) := by
  rw [stopF, endF, if_neg h, if_neg h]; exact ⟨rfl, rfl⟩

/-- What the marks are worth. -/
theorem vN_pair : ∀ a b : List UInt8, a.length = b.length → (∀ c ∈ a, 48 ≤ c.toNat ∧ c.toNat ≤ 57) → (∀ c ∈ b, 48 ≤ c.toNat ∧ c.toNat ≤ 57) →
    vN (turnW a b) + 10 * vN (warnW a b) = vN a + vN b := by
  intro a
  induction a with
  | nil => intro b h _ _; cases b with
           | nil => rfl
           | cons y b => cases h
  | cons x a ih =>
    intro b h ha hb
    cases b with
    | nil => cases h
    | cons y b =>
      have hl : a.length = b.length := by simpa using h
      have ih := ih b hl (fun c hc => ha c (List.mem_cons_of_mem _ hc)) (fun c hc => hb c (List.mem_cons_of_mem _ hc))
      have hx := ha x (List.mem_cons_self ..)
      have hy := hb y (List.mem_cons_self ..)
      have l1 : (turnW a b).length = a.length := by simp [turnW, hl]
      have l2 : (warnW a b).length = a.length := by simp [warnW, hl]
      show (turnD x y :: turnW a b |> vN) + 10 * (warnD x y :: warnW a b |> vN) = _
      show vN (turnD x y :: turnW a b) + 10 * vN (warnD x y :: warnW a b) = _
      rw [vN, vN, vN, vN, l1, l2, ← hl]
      have e : (turnD x y).toNat - 48 + 10 * ((warnD x y).toNat - 48) = (x.toNat - 48) + (y.toNat - 48) := by
        unfold turnD warnD; rw [UInt8.toNat_ofNat']
        split
        · show _ + 10 * (49 - 48) = _; omega
        · show _ + 10 * (48 - 48) = _; omega
      have e2 := congrArg (fun z => z * 10 ^ a.length) e
      simp only [Nat.add_mul] at e2
      rw [Nat.mul_assoc] at e2
      omega
theorem val_pair {a b : List UInt8} (h : alikeB a b = true) : val (turnW a b) + 10 * val (warnW a b) = val a + val b := by
  obtain ⟨ha, hb, hl⟩ := alikeB_iff.1 h
  have hp := marksB_iff.1 (pair_marks h)
  rw [val_vN _ (colB_dig ha), val_vN _ (colB_dig hb), val_vN _ (colB_dig hp.1), val_vN _ (marks_dig hp.2.2)]
  have := vN_pair a b hl (colB_dig ha) (colB_dig hb)
  omega
theorem val_cons (x : UInt8) (l : List UInt8) (h : ∀ c ∈ x :: l, 48 ≤ c.toNat ∧ c.toNat ≤ 57) : val (x :: l) = ((x.toNat : Int) - 48) * p10 l.length + val l := by
  have hx := h x (List.mem_cons_self ..)
  rw [val_vN _ h, val_vN _ (fun c hc => h c (List.mem_cons_of_mem _ hc)), vN, Int.natCast_add, Int.natCast_mul, p10_nat]
  congr 2
  omega
theorem val_up {c m : List UInt8} (h : marksB c m = true) : val (upL m) % p10 c.length = (10 * val m) % p10 c.length := by
  have hl := marks_len h
  have hm := marks_dig (marksB_iff.1 h).2.2
  rw [← hl.2.1]
  cases m with
  | nil => exact absurd hl.1 (by decide)
  | cons x l =>
    have e : upL (x :: l) = l ++ [48] := rfl
    rw [e, val_snoc, val_cons x l hm, List.length_cons, p10_succ]
    have e2 : (10 * (((x.toNat : Int) - 48) * p10 l.length + val l)) = (val l * 10 + (((48 : UInt8).toNat : Int) - 48)) + p10 l.length * 10 * ((x.toNat : Int) - 48) := by
      show _ = (val l * 10 + (48 - 48)) + _
      rw [Int.mul_add, Int.mul_comm ((x.toNat : Int) - 48), Int.mul_comm (p10 l.length) 10, Int.mul_assoc]
      omega
    rw [e2, Int.add_mul_emod_self_left]
theorem ahead_shows {c m : List UInt8} (h : marksB c m = true) : Shows (aheadL c m) c.length (val c + 10 * val m) := by
  rw [aheadL_yes h]
  have s := sum_shows (upL_col h).2.2
  refine s.kept ?_
  rw [Int.add_emod, val_up h, ← Int.add_emod]
theorem ahead_step {c m : List UInt8} (h : marksB c m = true) : aheadL (stepC c m) (stepM c m) = aheadL c m := by
  have s := ahead_shows (step_marks h)
  rw [(step_len h).1] at s
  refine s.eq (ahead_shows h) ?_
  rw [show val (stepC c m) + 10 * val (stepM c m) = val c + val (upL m) from val_pair (upL_col h).2.2, Int.add_emod, val_up h, ← Int.add_emod]
theorem val_marks : ∀ m : List UInt8, (∀ x ∈ m, x.toNat = 48 ∨ x.toNat = 49) → (val m = 0 ↔ lastOne m = 0) ∧ 0 ≤ val m := by
  intro m
  induction m with
  | nil => intro _; exact ⟨⟨fun _ => rfl, fun _ => rfl⟩, Int.le_refl _⟩
  | cons x l ih =>
    intro h
    have hx := h x (List.mem_cons_self ..)
    have ih := ih (fun c hc => h c (List.mem_cons_of_mem _ hc))
    rw [val_cons x l (marks_dig h), lastOne]
    have hp := p10_pos l.length
    rcases hx with hx | hx
    · rw [hx, show (((48 : Nat) : Int) - 48) = 0 from rfl, Int.zero_mul, Int.zero_add]
      refine ⟨?_, ih.2⟩
      rw [ih.1]
      constructor
      · intro h0; rw [if_pos h0]; rfl
      · intro h0; split at h0
        · assumption
        · omega
    · rw [hx, show (((49 : Nat) : Int) - 48) = 1 from rfl, Int.one_mul]
      refine ⟨?_, by omega⟩
      constructor
      · intro h0; omega
      · intro h0; split at h0
        · simp at h0
        · omega
theorem end_ahead (f : Nat) : ∀ c m, marksB c m = true → lastOne m ≤ f → endF f c m = aheadL c m := by
  have stop : ∀ c m, marksB c m = true → lastOne m = 0 → c = aheadL c m := by
    intro c m h h0
    have hm := marksB_iff.1 h
    have e := (val_marks m hm.2.2).1.2 h0
    refine (shows_self hm.1).eq (ahead_shows h) ?_
    rw [e, Int.mul_zero, Int.add_zero]
  induction f with
  | zero => intro c m h h0; exact stop c m h (by omega)
  | succ f ih =>
    intro c m h h0
    by_cases hz : lastOne m = 0
    · rw [(stop_done hz).2]; exact stop c m h hz
    · have := step_down h
      rw [(stop_step hz).2, ih _ _ (step_marks h) (by omega), ahead_step h]
theorem pair_end {a b : List UInt8} (h : alikeB a b = true) : aheadL (turnW a b) (warnW a b) = sumL a b := by
  have s := ahead_shows (pair_marks h)
  have hl := (alikeB_iff.1 h).2.2
  rw [val_pair h, show (turnW a b).length = a.length by simp [turnW, hl]] at s
  exact s.eq (sum_shows h) rfl

/-- The longest run of nines above a marked wheel. -/
def run (c : List UInt8) : Nat → Nat
  | 0 => 0
  | i + 1 => if (gd c i).toNat = 57 then run c i + 1 else 0
def term (c m : List UInt8) (i : Nat) : Nat := if (gd m i).toNat = 49 then 1 + run c i else 0
def longF (c m : List UInt8) : Nat → Nat
  | 0 => 0
  | i + 1 => max (longF c m i) (term c m i)
theorem run_le (c : List UInt8) (i : Nat) : run c i ≤ i := by
  induction i with
  | zero => exact Nat.le_refl _
  | succ i ih => rw [run]; split <;> omega
theorem long_le (c m : List UInt8) (i : Nat) : longF c m i ≤ i := by
  induction i with
  | zero => exact Nat.le_refl _
  | succ i ih => have := run_le c i; rw [longF, term]; split <;> omega
/-- Marked wheels do not show 9. -/
def Fresh (c m : List UInt8) : Prop := ∀ i, (gd m i).toNat = 49 → (gd c i).toNat ≠ 57
theorem fresh_pair {a b : List UInt8} (h : alikeB a b = true) : Fresh (turnW a b) (warnW a b) := by
  obtain ⟨ha, hb, hl⟩ := alikeB_iff.1 h
  intro i hi
  rw [gd_warn hl] at hi
  rw [gd_turn hl]
  rcases warned_at (dig_gd ha i) (dig_gd hb i) with h1 | h1
  · exact h1.2.2
  · omega
theorem run_step {c m : List UInt8} (h : marksB c m = true) (hf : Fresh c m) (i : Nat) : (gd c i).toNat = 57 → run (stepC c m) i = run c i := by
  induction i with
  | zero => intro _; rfl
  | succ i ih =>
    intro h9
    have hm : (gd m (i + 1)).toNat = 48 := by
      rcases mark_gd h (i + 1) with h1 | h1
      · exact h1
      · exact absurd h9 (hf _ h1)
    have e : (gd (stepC c m) i).toNat = (gd c i).toNat := by
      have hd := dig_gd (marksB_iff.1 h).1 i
      rw [gd_stepC h]
      unfold turnD
      rw [UInt8.toNat_ofNat', hm]
      omega
    rw [run, run, e]
    split
    · rename_i h1; rw [ih h1]
    · rfl
theorem term_step {c m : List UInt8} (h : marksB c m = true) (hf : Fresh c m) (i : Nat) : term c m (i + 1) = if (gd m (i + 1)).toNat = 49 then 1 + term (stepC c m) (stepM c m) i else 0 := by
  have hw := warn_iff (dig_gd (marksB_iff.1 h).1 i) (mark_gd h (i + 1))
  rw [← gd_stepM h] at hw
  unfold term
  split
  · rename_i h1
    congr 1
    rw [run]
    by_cases h9 : (gd c i).toNat = 57
    · rw [if_pos h9, if_pos (hw.2 ⟨h9, h1⟩), run_step h hf i h9, Nat.add_comm]
    · rw [if_neg h9, if_neg (fun hh => h9 (hw.1 hh).1)]
  · rfl
theorem long_step {c m : List UInt8} (h : marksB c m = true) (hf : Fresh c m) (i : Nat) :
    (longF c m (i + 1) = 0 ∧ longF (stepC c m) (stepM c m) i = 0 ∧ ∀ j, j ≤ i → (gd m j).toNat ≠ 49) ∨
    (longF c m (i + 1) = longF (stepC c m) (stepM c m) i + 1 ∧ ∃ j, j ≤ i ∧ (gd m j).toNat = 49) := by
  induction i with
  | zero =>
    by_cases h0 : (gd m 0).toNat = 49
    · refine .inr ⟨?_, 0, Nat.le_refl _, h0⟩
      simp [longF, term, h0, run]
    · refine .inl ⟨?_, rfl, fun j hj => ?_⟩
      · simp [longF, term, h0]
      · obtain rfl : j = 0 := by omega
        exact h0
  | succ i ih =>
    have ht := term_step h hf i
    have e1 : longF c m (i + 1 + 1) = max (longF c m (i + 1)) (term c m (i + 1)) := rfl
    have e2 : longF (stepC c m) (stepM c m) (i + 1) = max (longF (stepC c m) (stepM c m) i) (term (stepC c m) (stepM c m) i) := rfl
    by_cases h1 : (gd m (i + 1)).toNat = 49
    · rw [if_pos h1] at ht
      refine .inr ⟨?_, i + 1, Nat.le_refl _, h1⟩
      rcases ih with ⟨a, b, _⟩ | ⟨a, _⟩
      · rw [e1, e2, a, b, ht]; omega
      · rw [e1, e2, a, ht]; omega
    · rw [if_neg h1] at ht
      have hz : term (stepC c m) (stepM c m) i = 0 := by
        unfold term
        rw [if_neg]
        intro hw
        rw [gd_stepM h] at hw
        exact h1 ((warn_iff (dig_gd (marksB_iff.1 h).1 i) (mark_gd h (i + 1))).1 hw).2
      rcases ih with ⟨a, b, d⟩ | ⟨a, j, hj, d⟩
      · refine .inl ⟨by rw [e1, a, ht]; rfl, by rw [e2, b, hz]; rfl, fun j hj => ?_⟩
        rcases Nat.eq_or_lt_of_le hj with e | e
        · subst e; exact h1
        · exact d j (by omega)
      · refine .inr ⟨by rw [e1, e2, a, ht, hz]; omega, j, by omega, d⟩
theorem fresh_step {c m : List UInt8} (h : marksB c m = true) : Fresh (stepC c m) (stepM c m) := fresh_pair (upL_col h).2.2
theorem stop_long (f : Nat) : ∀ c m, marksB c m = true → Fresh c m → lastOne m ≤ f → stopF f c m = longF c m c.length := by
  have none : ∀ c m, lastOne m = 0 → ∀ i, longF c m i = 0 := by
    intro c m h0 i
    induction i with
    | zero => rfl
    | succ i ih =>
      have := (lastOne_iff m 0).1 (by omega) i (Nat.zero_le _)
      rw [longF, ih, term, if_neg this]; rfl
  induction f with
  | zero => intro c m h _ h0; rw [none c m (by omega)]; rfl
  | succ f ih =>
    intro c m h hf h0
    by_cases hz : lastOne m = 0
    · rw [(stop_done hz).1, none c m hz]
    · have hd := step_down h
      have hl := marks_len h
      rw [(stop_step hz).1, ih _ _ (step_marks h) (fresh_step h) (by omega), (step_len h).1]
      obtain ⟨n, hn⟩ : ∃ n, c.length = n + 1 := ⟨c.length - 1, by omega⟩
      rw [hn]
      have e2 : longF (stepC c m) (stepM c m) (n + 1) = max (longF (stepC c m) (stepM c m) n) (term (stepC c m) (stepM c m) n) := rfl
      have e3 : term (stepC c m) (stepM c m) n = 0 := by
        unfold term
        rw [if_neg]
        intro hw
        rw [gd_stepM h, gd_out (l := m) (by omega)] at hw
        exact absurd ((warn_iff (dig_gd (marksB_iff.1 h).1 n) (.inl rfl)).1 hw).2 (by decide)
      rcases long_step h hf n with ⟨a, _, d⟩ | ⟨a, _⟩
      · exfalso
        apply hz
        have := (lastOne_iff m 0).2 (fun i _ => ?_)
        · omega
        · by_cases hi : i ≤ n
          · exact d i hi
          · rw [gd_out (by omega)]; decide
      · rw [a, e2, e3]; omega
end Go.Proofs.Ytghgienpkffcbaa
