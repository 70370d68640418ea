/- Canonical decimal numerals: which texts are one, what they say, how a number is written. Plain Lean: no program. -/
import Derived.Test.YthhkpghecekoeaaDoorColLaws
import Derived.Lib.Atoi
import Derived.Lib.ItoaNum
import Derived.Lib.AtoiTie
import Derived.Lib.AtoiAllCases
import Derived.Lib.Strings
namespace Go.Proofs.YthhkpghecekoeaaDoor

/-- All digits. -/
def digs (l : List UInt8) : Prop := ∀ c ∈ l, 48 ≤ c.toNat ∧ c.toNat ≤ 57
/-- A row of digits with no zero ahead. -/
def magB (neg : Bool) (d : List UInt8) : Bool := decide (1 ≤ d.length ∧ d.length ≤ 17) && (!(decide (gd0 d = 48) && (decide (1 < d.length) || neg)) && d.all dig)
where gd0 (d : List UInt8) : Nat := match d with
  | [] => 0
  | c :: _ => c.toNat
theorem magB_iff {neg : Bool} {d : List UInt8} : magB neg d = true ↔ (1 ≤ d.length ∧ d.length ≤ 17) ∧ ¬ (magB.gd0 d = 48 ∧ (1 < d.length ∨ neg = true)) ∧ digs d := by
  unfold magB digs
  simp only [Bool.and_eq_true, decide_eq_true_eq, Bool.not_eq_true', Bool.and_eq_false_iff, decide_eq_false_iff_not, Bool.or_eq_false_iff, List.all_eq_true, dig_iff]
  constructor
  · rintro ⟨h1, h2, h3⟩
    refine ⟨h1, ?_, h3⟩
    rintro ⟨a, b⟩
    rcases h2 with h2 | ⟨h2, h4⟩
    · exact h2 a
    · rcases b with b | b
      · exact h2 b
      · rw [h4] at b; cases b
  · rintro ⟨h1, h2, h3⟩
    refine ⟨h1, ?_, h3⟩
    by_cases a : magB.gd0 d = 48
    · refine .inr ⟨fun b => h2 ⟨a, .inl b⟩, ?_⟩
      cases neg
      · rfl
      · exact absurd ⟨a, .inr rfl⟩ h2
    · exact .inl a
/-- Does a text begin with a minus sign? -/
def minB (l : List UInt8) : Bool := match l with
  | [] => false
  | c :: _ => c == 45
def numB (l : List UInt8) : Bool := if minB l = true then magB true (l.drop 1) else magB false l
def numV (l : List UInt8) : Int := if numB l = true then (if minB l = true then -val (l.drop 1) else val l) else 0
theorem numV_no {l : List UInt8} (h : numB l = false) : numV l = 0 := by unfold numV; rw [h]; rfl

/-- The numeral of a number. -/
theorem dd_small {u : Nat} (h : u < 10) : Lib.decDigits u = [UInt8.ofNat (48 + u)] := by rw [Lib.decDigits, dif_pos h]
theorem dd_big {u : Nat} (h : ¬ u < 10) : Lib.decDigits u = Lib.decDigits (u / 10) ++ [UInt8.ofNat (48 + u % 10)] := by rw [Lib.decDigits, dif_neg h]
theorem byte_nat {k : Nat} (h : k < 10) : (UInt8.ofNat (48 + k)).toNat = 48 + k := by rw [UInt8.toNat_ofNat']; omega
theorem dd_facts (u : Nat) : digs (Lib.decDigits u) ∧ Lib.decDigits u ≠ [] ∧ (1 ≤ u → magB.gd0 (Lib.decDigits u) ≠ 48) ∧ val (Lib.decDigits u) = u ∧ (u < 10 → (Lib.decDigits u).length = 1) := by
  induction u using Nat.strongRecOn with
  | _ u ih =>
    by_cases h : u < 10
    · rw [dd_small h]
      have hb := byte_nat h
      refine ⟨fun c hc => ?_, by simp, fun h1 => ?_, ?_, fun _ => rfl⟩
      · rw [List.mem_singleton.1 hc, hb]; omega
      · show (UInt8.ofNat (48 + u)).toNat ≠ 48
        rw [hb]; omega
      · show (0 : Int) * 10 + (((UInt8.ofNat (48 + u)).toNat : Int) - 48) = u
        rw [hb]; omega
    · rw [dd_big h]
      obtain ⟨i1, i2, i3, i4, _⟩ := ih (u / 10) (by omega)
      have hb := byte_nat (k := u % 10) (by omega)
      refine ⟨fun c hc => ?_, by simp, fun _ => ?_, ?_, fun h2 => absurd h2 h⟩
      · rcases List.mem_append.1 hc with hc | hc
        · exact i1 c hc
        · rw [List.mem_singleton.1 hc, hb]; omega
      · have := i3 (by omega)
        cases hd : Lib.decDigits (u / 10) with
        | nil => exact absurd hd i2
        | cons c r => rw [hd] at this; exact this
      · rw [val_snoc, i4, hb]; omega
theorem val_nonneg {l : List UInt8} (h : digs l) : 0 ≤ val l := (val_bd l h).1
theorem val_pos : ∀ {l : List UInt8}, digs l → l ≠ [] → magB.gd0 l ≠ 48 → 1 ≤ val l := by
  intro l h hn h0
  cases l with
  | nil => exact absurd rfl hn
  | cons c r =>
    have hc := h c (List.mem_cons_self ..)
    have hr := (fun x hx => h x (List.mem_cons_of_mem _ hx) : digs r)
    have h0' : c.toNat ≠ 48 := h0
    rw [val_vN _ h, vN]
    have hp : 1 ≤ 10 ^ r.length := Nat.one_le_pow _ _ (by decide)
    have : 1 * 10 ^ r.length ≤ (c.toNat - 48) * 10 ^ r.length := Nat.mul_le_mul_right _ (by omega)
    omega
/-- A row of digits with no zero ahead is the numeral of what it shows. -/
theorem dd_val (n : Nat) : ∀ l : List UInt8, l.length = n → digs l → l ≠ [] → (magB.gd0 l ≠ 48 ∨ l.length = 1) → Lib.decDigits (val l).toNat = l := by
  induction n with
  | zero => intro l hl _ hn _; exact absurd (List.length_eq_zero_iff.1 hl) hn
  | succ n ih =>
    intro l hl hd hn h0
    obtain ⟨r, c, rfl⟩ : ∃ r c, l = r ++ [c] := ⟨l.dropLast, l.getLast hn, (List.dropLast_concat_getLast hn).symm⟩
    have hc := hd c (by simp)
    have hr : digs r := fun x hx => hd x (List.mem_append_left _ hx)
    have hz := val_nonneg hr
    rw [val_snoc]
    cases r with
    | nil =>
      have e : (val [] * 10 + ((c.toNat : Int) - 48)).toNat = c.toNat - 48 := by show (0 * 10 + ((c.toNat : Int) - 48)).toNat = _; omega
      rw [e, dd_small (by omega)]
      show [_] = [c]
      congr 1
      apply UInt8.toNat_inj.1
      rw [byte_nat (by omega)]; omega
    | cons a r =>
      have h0' : magB.gd0 (a :: r) ≠ 48 := by
        rcases h0 with h0 | h0
        · exact h0
        · simp at h0
      have hp := val_pos hr (by simp) h0'
      have hlen : (a :: r).length = n := by simpa using hl
      have hih := ih (a :: r) hlen hr (by simp) (.inl h0')
      rw [dd_big (by omega), show (val (a :: r) * 10 + ((c.toNat : Int) - 48)).toNat / 10 = (val (a :: r)).toNat by omega, hih]
      congr 1
      show [_] = [c]
      congr 1
      apply UInt8.toNat_inj.1
      rw [byte_nat (by omega)]; omega

/-- What the library reads. -/
theorem decFrom_digs : ∀ (l : List UInt8) (acc : Nat), digs l → ∃ m : Nat, Lib.decFrom acc l = some m ∧ (m : Int) = l.foldl (fun v c => v * 10 + ((c.toNat : Int) - 48)) (acc : Int) := by
  intro l
  induction l with
  | nil => intro acc _; exact ⟨acc, rfl, rfl⟩
  | cons c r ih =>
    intro acc h
    have hc := h c (List.mem_cons_self ..)
    have hv : Lib.digitVal c = some (c.toNat - 48) := if_pos hc
    obtain ⟨m, h1, h2⟩ := ih (acc * 10 + (c.toNat - 48)) (fun x hx => h x (List.mem_cons_of_mem _ hx))
    refine ⟨m, by rw [Lib.decFrom, hv]; exact h1, ?_⟩
    rw [h2, List.foldl_cons]
    congr 1
    omega
theorem decNat_digs {l : List UInt8} (h : digs l) (hn : l ≠ []) : ∃ m : Nat, Lib.decNat l = some m ∧ (m : Int) = val l := by
  obtain ⟨m, h1, h2⟩ := decFrom_digs l 0 h
  refine ⟨m, ?_, h2⟩
  cases l with
  | nil => exact absurd rfl hn
  | cons c r => exact h1
theorem num_yes {l : List UInt8} (h : numB l = true) : Lib.atoi l = some (numV l) ∧ Lib.itoa (numV l) = l ∧ l.length ≤ 18 := by
  have hv : numV l = if minB l = true then -val (l.drop 1) else val l := if_pos h
  rw [hv]
  unfold numB at h
  cases l with
  | nil => cases h
  | cons c r =>
    by_cases hc : (c == 45) = true
    · have hneg : minB (c :: r) = true := hc
      rw [if_pos hneg] at h ⊢
      obtain ⟨⟨h1, h2⟩, h3, h4⟩ := magB_iff.1 h
      have e : (c :: r).drop 1 = r := rfl
      rw [e] at h1 h2 h3 h4 ⊢
      have hn : r ≠ [] := by intro e; rw [e] at h1; simp at h1
      have h5 : magB.gd0 r ≠ 48 := fun e => h3 ⟨e, .inr rfl⟩
      obtain ⟨m, m1, m2⟩ := decNat_digs h4 hn
      have hp := val_pos h4 hn h5
      refine ⟨?_, ?_, by rw [List.length_cons]; omega⟩
      · rw [Lib.atoi, if_pos hc, m1, ← m2]; rfl
      · unfold Lib.itoa
        rw [if_pos (by omega), show (-val r).natAbs = (val r).toNat by omega, dd_val _ r rfl h4 hn (.inl h5), beq_iff_eq.1 hc]
    · have hneg : ¬ minB (c :: r) = true := hc
      rw [if_neg hneg] at h ⊢
      obtain ⟨⟨h1, h2⟩, h3, h4⟩ := magB_iff.1 h
      have hcd := h4 c (List.mem_cons_self ..)
      have h43 : ¬ (c == 43) = true := by
        intro e
        rw [beq_iff_eq.1 e] at hcd
        exact absurd hcd.1 (by decide)
      obtain ⟨m, m1, m2⟩ := decNat_digs h4 (by simp)
      have hz := val_nonneg h4
      refine ⟨?_, ?_, by omega⟩
      · rw [Lib.atoi, if_neg hc, if_neg h43, m1, ← m2]; rfl
      · unfold Lib.itoa
        rw [if_neg (by omega), dd_val _ (c :: r) rfl h4 (by simp)]
        by_cases h0 : magB.gd0 (c :: r) = 48
        · right
          apply Classical.byContradiction
          intro hl
          exact h3 ⟨h0, .inl (by rw [List.length_cons] at hl ⊢; omega)⟩
        · exact .inl h0
/-- How long a text is without its sign. -/
def bareN (l : List UInt8) : Nat := if minB l = true then l.length - 1 else l.length
theorem num_of {l : List UInt8} {n : Int} (hb : bareN l ≤ 17) (h2 : Lib.itoa n = l) : numB l = true := by
  unfold Lib.itoa at h2
  by_cases hn : n < 0
  · rw [if_pos hn] at h2
    subst h2
    have hneg : minB (45 :: Lib.decDigits n.natAbs) = true := rfl
    have f := dd_facts n.natAbs
    unfold numB
    unfold bareN at hb
    rw [if_pos hneg] at hb ⊢
    have e : (45 :: Lib.decDigits n.natAbs).drop 1 = Lib.decDigits n.natAbs := rfl
    rw [e]
    rw [List.length_cons, Nat.add_sub_cancel] at hb
    have hl : (Lib.decDigits n.natAbs).length ≠ 0 := fun e => f.2.1 (List.length_eq_zero_iff.1 e)
    exact magB_iff.2 ⟨⟨by omega, hb⟩, fun h => f.2.2.1 (by omega) h.1, f.1⟩
  · rw [if_neg hn] at h2
    subst h2
    have f := dd_facts n.toNat
    have hl : (Lib.decDigits n.toNat).length ≠ 0 := fun e => f.2.1 (List.length_eq_zero_iff.1 e)
    have hneg : ¬ minB (Lib.decDigits n.toNat) = true := by
      cases hd : Lib.decDigits n.toNat with
      | nil => exact absurd hd f.2.1
      | cons c r =>
        have hc := f.1 c (by rw [hd]; exact List.mem_cons_self ..)
        intro h
        rw [show minB (c :: r) = (c == 45) from rfl, beq_iff_eq] at h
        rw [h] at hc
        exact absurd hc.1 (by decide)
    unfold numB
    unfold bareN at hb
    rw [if_neg hneg] at hb ⊢
    refine magB_iff.2 ⟨⟨by omega, hb⟩, fun h => ?_, f.1⟩
    by_cases h1 : 1 ≤ n.toNat
    · exact f.2.2.1 h1 h.1
    · have := f.2.2.2.2 (by omega)
      rcases h.2 with h | h
      · omega
      · cases h
theorem num_long {l : List UInt8} (h : 17 < bareN l) : numB l = false := by
  rw [Bool.eq_false_iff]
  intro hb
  unfold numB at hb
  unfold bareN at h
  by_cases hn : minB l = true
  · rw [if_pos hn] at h hb
    have := (magB_iff.1 hb).1.2
    rw [List.length_drop] at this
    omega
  · rw [if_neg hn] at h hb
    have := (magB_iff.1 hb).1.2
    omega
theorem trim_bare (l : List UInt8) : (Lib.trimPrefix l [45]).length = bareN l := by
  unfold Lib.trimPrefix bareN
  cases l with
  | nil => rfl
  | cons c r =>
    have e : Lib.hasPrefix (c :: r) [45] = minB (c :: r) := by
      rw [show minB (c :: r) = (c == 45) from rfl]
      simp [Lib.hasPrefix, List.isPrefixOf]
      exact Bool.beq_comm ..
    rw [e]
    split
    · rfl
    · rfl
end Go.Proofs.YthhkpghecekoeaaDoor
