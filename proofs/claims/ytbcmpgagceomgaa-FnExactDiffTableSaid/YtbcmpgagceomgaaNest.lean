/- Lists of lists of integers of the call's own: what they hold, how they grow, how they are read and marked. -/
import Derived.Test.YtbcmpgagceomgaaHas
import Derived.Test.YtbcmpgagceomgaaTable
import Derived.BigQuiet
namespace Go.Proofs.Ytbcmpgagceomgaa
open Go.RowKit

theorem infoL : (Try.prog.info? 22).map (fun i => (i.zero, i.size, i.bytes)) = some (some (.slice none 0 0), 1, 24) := by kernel_rfl

/-- A row as an element of a list of lists: its block, its room, its numbers. -/
structure Ent where
  g : Nat
  c : Nat
  xs : List Int
def Ent.v (e : Ent) : Value := .slice (some ⟨e.g, 0, none⟩) e.xs.length e.c

/-- The slice value v is a list of rows, all in blocks of the call's own from lo on and below hi, no block twice. -/
structure Nest (w : World) (lo hi : Nat) (v : Value) (es : List Ent) : Prop where
  outer : w.ownsRow lo 22 1 v es.length (es.map Ent.v)
  top : ∀ g, v.ownBlock = some g → g < hi
  rows : ∀ e ∈ es, Own w lo hi e.v e.xs ∧ 0 < e.xs.length
  order : (es.map Ent.g).Pairwise (· < ·)

theorem owns_block {w w' : World} {lo s n : Nat} {t : TypeId} {v : Value} {vs : List Value} (h : w.ownsRow lo t s v n vs) (hb : ∀ g, v.ownBlock = some g → w'.heap[g]? = w.heap[g]?) : w'.ownsRow lo t s v n vs := by
  refine ⟨h.1, ?_⟩
  rcases h.2 with h0 | ⟨g, cap, cur, rfl, hlo, hg, r⟩
  · exact .inl h0
  · exact .inr ⟨g, cap, cur, rfl, hlo, (hb g rfl).trans hg, r⟩
theorem owns_low {w : World} {lo lo' s n : Nat} {t : TypeId} {v : Value} {vs : List Value} (h : w.ownsRow lo t s v n vs) (hl : lo' ≤ lo) : w.ownsRow lo' t s v n vs := by
  refine ⟨h.1, ?_⟩
  rcases h.2 with h0 | ⟨g, cap, cur, rfl, hlo, r⟩
  · exact .inl h0
  · exact .inr ⟨g, cap, cur, rfl, Nat.le_trans hl hlo, r⟩
/-- A block of integers is no block of rows. -/
theorem apart {w : World} {lo lo2 hi n : Nat} {v v2 : Value} {xs : List Int} {vs : List Value} (ho : Own w lo hi v xs) (hn : w.ownsRow lo2 22 1 v2 n vs) {g : Nat} (hg : v.ownBlock = some g) : v2.ownBlock ≠ some g := by
  intro h2
  rcases ho.1.2 with ⟨rfl, _⟩ | ⟨g1, c1, cur1, rfl, _, e1, _⟩
  · cases hg
  rcases hn.2 with ⟨rfl, _⟩ | ⟨g2, c2, cur2, rfl, _, e2, _⟩
  · cases h2
  have q1 : g1 = g := by simpa [Value.ownBlock] using hg
  have q2 : g2 = g := by simpa [Value.ownBlock] using h2
  subst q1 q2
  rw [e1] at e2
  simp only [Option.some.injEq, Obj.cells.injEq] at e2
  exact absurd e2.2.1 (by decide)

theorem Nest.stay {w w' : World} {lo hi : Nat} {v : Value} {es : List Ent} (h : Nest w lo hi v es) (hb : ∀ k, lo ≤ k → k < hi → w'.heap[k]? = w.heap[k]?) : Nest w' lo hi v es :=
  ⟨owns_block h.outer fun g hg => hb g (World.ownsRow.lt h.outer g hg).1 (h.top g hg), h.top, fun e he => ⟨(h.rows e he).1.keep hb, (h.rows e he).2⟩, h.order⟩
theorem Nest.below {w w' : World} {lo hi B : Nat} {v : Value} {es : List Ent} (h : Nest w lo hi v es) (hb : Below B w w') (hB : hi ≤ B) : Nest w' lo hi v es :=
  h.stay fun k _ hk => hb.block k (by omega)
theorem Nest.loosen {w : World} {lo hi lo' hi' : Nat} {v : Value} {es : List Ent} (h : Nest w lo hi v es) (h1 : lo' ≤ lo) (h2 : hi ≤ hi') : Nest w lo' hi' v es :=
  ⟨owns_low h.outer h1, fun g hg => Nat.lt_of_lt_of_le (h.top g hg) h2, fun e he => ⟨(h.rows e he).1.loosen h1 h2, (h.rows e he).2⟩, h.order⟩
theorem Nest.grown {w w' : World} {lo hi lo2 hi2 : Nat} {v v2 : Value} {es : List Ent} {xs2 : List Int} (h : Nest w lo hi v es) (hg : w.grownBy w' v2.ownBlock) (h2 : Own w lo2 hi2 v2 xs2) (hsep : hi ≤ lo2 ∨ hi2 ≤ lo) (hhi : hi ≤ w.heap.size) : Nest w' lo hi v es :=
  h.stay fun k h1 hk => hg.block k (by omega) (fun e => by have := h2.blk k e.symm; omega)
theorem Nest.nil (w : World) (lo hi : Nat) : Nest w lo hi (.slice none 0 0) [] :=
  ⟨World.ownsRow_nil w lo _ 1, fun g hg => by simp [Value.ownBlock] at hg, (fun e he => by cases he), List.Pairwise.nil⟩
theorem Nest.at_ {w : World} {lo hi : Nat} {A : Option Addr} {n c : Nat} {es : List Ent} (h : Nest w lo hi (.slice A n c) es) {k : Nat} (hk : k < es.length) :
    ∃ g, A = some ⟨g, 0, none⟩ ∧ w.cell? ⟨g, k, none⟩ = some es[k].v := by
  have ho := h.outer
  rcases ho.2 with ⟨_, h0⟩ | ⟨g, cap, cur, h', _⟩
  · omega
  · simp only [Value.slice.injEq] at h'
    obtain ⟨rfl, rfl, rfl⟩ := h'
    refine ⟨g, rfl, ?_⟩
    rw [World.ownsRow.cellAt ho k (by omega), List.getElem?_map, List.getElem?_eq_getElem hk]
    rfl
theorem Nest.row {w : World} {lo hi : Nat} {v : Value} {es : List Ent} (h : Nest w lo hi v es) {k : Nat} (hk : k < es.length) : Own w lo hi es[k].v es[k].xs := (h.rows _ (List.getElem_mem hk)).1
theorem Nest.len {w : World} {lo hi : Nat} {A : Option Addr} {n c : Nat} {es : List Ent} (h : Nest w lo hi (.slice A n c) es) : n = es.length := by
  rcases h.outer.2 with ⟨h', h0⟩ | ⟨g, cap, cur, h', _⟩ <;> simp only [Value.slice.injEq] at h' <;> omega

/-- One row more. -/
theorem Nest.push {w w' : World} {lo hi lo2 m c2 g : Nat} {v v' : Value} {es : List Ent} {row : List Int} (h : Nest w lo hi v es) (hr : Own w lo2 hi (.slice (some ⟨g, 0, none⟩) m c2) row) (hm : m = row.length) (hp : 0 < m) (hlt : ∀ e ∈ es, e.g < g) (hlo : lo ≤ lo2) (hhi : hi ≤ w.heap.size)
    (hg : w.grownBy w' v.ownBlock) (ho : w'.ownsRow lo 22 1 v' (es.length + 1) (es.map Ent.v ++ [.slice (some ⟨g, 0, none⟩) m c2])) : Nest w' lo w'.heap.size v' (es ++ [⟨g, c2, row⟩]) := by
  subst hm
  have keep : ∀ (u : Value) (xs : List Int) (lo3 : Nat), Own w lo3 hi u xs → lo ≤ lo3 → Own w' lo w'.heap.size u xs := fun u xs lo3 hu h3 =>
    ⟨owns_low (World.ownsRow.kept hu.1 hg (by
      cases hb : u.ownBlock with
      | none => exact .inl rfl
      | some k => exact .inr fun e => apart hu h.outer hb e.symm)) h3, fun k hk => by
        have := hu.2 k hk
        have := hg.size
        omega⟩
  refine ⟨by simpa [Ent.v] using ho, fun k hk => (World.ownsRow.lt ho k hk).2, fun e he => ?_, ?_⟩
  · rcases List.mem_append.1 he with he | he
    · exact ⟨keep _ _ _ (h.rows e he).1 (Nat.le_refl _), (h.rows e he).2⟩
    · obtain rfl := List.mem_singleton.1 he
      exact ⟨keep _ _ _ hr hlo, hp⟩
  · rw [List.map_append, List.pairwise_append]
    refine ⟨h.order, by simp, fun a ha b hb => ?_⟩
    obtain ⟨e, he, rfl⟩ := List.mem_map.1 ha
    have : b = g := by simpa using hb
    rw [this]
    exact hlt e he

/-- A row's numbers are turned. -/
theorem Nest.marked {w w' : World} {lo hi : Nat} {v : Value} {pre post : List Ent} {e : Ent} {ys : List Int} (h : Nest w lo hi v (pre ++ e :: post)) (ho : Own w' lo hi e.v ys) (hl : ys.length = e.xs.length) (hg : w.grownBy w' e.v.ownBlock) :
    Nest w' lo hi v (pre ++ ⟨e.g, e.c, ys⟩ :: post) := by
  have he := h.rows e (by simp)
  have ev : (⟨e.g, e.c, ys⟩ : Ent).v = e.v := by unfold Ent.v; rw [hl]
  have hw : w'.ownsRow lo 22 1 v (pre ++ e :: post).length ((pre ++ e :: post).map Ent.v) := World.ownsRow.kept h.outer hg (.inr (apart he.1 h.outer rfl))
  have hor := h.order
  rw [List.map_append, List.map_cons, List.pairwise_append, List.pairwise_cons] at hor
  have keep : ∀ e' ∈ pre ++ e :: post, e'.g ≠ e.g → Own w' lo hi e'.v e'.xs ∧ 0 < e'.xs.length := fun e' h' hne =>
    ⟨⟨World.ownsRow.kept (h.rows e' h').1.1 hg (.inr (fun q => hne (by simpa [Ent.v, Value.ownBlock] using q))), (h.rows e' h').1.2⟩, (h.rows e' h').2⟩
  refine ⟨?_, h.top, fun e' h' => ?_, by simpa using h.order⟩
  · have e1 : (pre ++ (⟨e.g, e.c, ys⟩ : Ent) :: post).map Ent.v = (pre ++ e :: post).map Ent.v := by simp [ev]
    rw [e1]
    simpa using hw
  · rcases List.mem_append.1 h' with h1 | h1
    · exact keep e' (List.mem_append_left _ h1) (by
        have := hor.2.2 e'.g (List.mem_map_of_mem h1) e.g (by simp)
        omega)
    · rcases List.mem_cons.1 h1 with rfl | h2
      · rw [ev]
        exact ⟨ho, by show 0 < ys.length; rw [hl]; exact he.2⟩
      · exact keep e' (List.mem_append_right _ (List.mem_cons_of_mem _ h2)) (by
          have := hor.2.1.1 e'.g (List.mem_map_of_mem h2)
          omega)

/-- make([][]int, 0, n). -/
def cL (n : Nat) : Array Value := madeCells #[.slice none 0 0] n
theorem make_roomL (n : Nat) (hn : n ≤ 100000000) (W : World) :
    (Instr.makeSlice 29 (.int .i64 0) (.int .i64 (n : Int))).run Try.prog W = .ok (.slice (some ⟨W.heap.size, 0, none⟩) 0 n) (W.alloc (.cells (cL n) 22)) := by
  obtain ⟨i0, hi, hz0, hz1, hz2⟩ := info_parts infoL
  have hr := run_make (P := Try.prog) W 29 22 i0 (.slice none 0 0) Try.underlying29 hi hz0 .i64 .i64 0 n (by omega) (by omega) (by rw [hz2]; omega) (by omega)
  simp only [Int.toNat_natCast, Int.toNat_zero, hz1, Nat.mul_one] at hr
  rw [hr]
  rfl
theorem Nest.room (w : World) (n : Nat) (hn : n ≤ 100000000) : Nest (w.alloc (.cells (cL n) 22)) w.heap.size (w.alloc (.cells (cL n) 22)).heap.size (.slice (some ⟨w.heap.size, 0, none⟩) 0 n) [] :=
  ⟨World.ownsRow_made w (cL n) n (Nat.le_refl _) (by unfold maxLen; omega) (by
    have := toList_madeCells_one (.slice none 0 0) n
    rw [← Array.length_toList]
    unfold cL
    rw [this]
    simp), fun g hg => by
    have : w.heap.size = g := by simpa [Value.ownBlock] using hg
    have h2 := (Blk.new w 22 (cL n)).lt
    omega, (fun e he => by cases he), List.Pairwise.nil⟩
theorem Nest.empty (w : World) : Nest (w.alloc (.cells #[] 22)) w.heap.size (w.alloc (.cells #[] 22)).heap.size (.slice (some ⟨w.heap.size, 0, none⟩) 0 0) [] :=
  ⟨World.ownsRow_made w #[] 0 (Nat.le_refl _) (by unfold maxLen; omega) (by simp), fun g hg => by
    have : w.heap.size = g := by simpa [Value.ownBlock] using hg
    have h2 := (Blk.new w 22 #[]).lt
    omega, (fun e he => by cases he), List.Pairwise.nil⟩

theorem run_appL {w : World} {lo n : Nat} {v u : Value} {vs : List Value} (hown : w.ownsRow lo 22 1 v n vs) (hlo : lo ≤ w.heap.size) {b c : Nat} (hu : w.cell? ⟨b, 0, none⟩ = some u) (h1 : u.oneCell' = true) (hz : n + 1 ≤ 1000000) (ty : TypeId) :
    ∃ A' c' w', (Builtin.append_ #[29, 29] ty #[v, .slice (some ⟨b, 0, none⟩) 1 c]).run Try.prog w = .ok (.slice A' (n + 1) c') w' ∧
      w'.ownsRow lo 22 1 (.slice A' (n + 1) c') (n + 1) (vs ++ [u]) ∧ w.grownBy w' v.ownBlock := by
  obtain ⟨i0, hi0, hz0, hz1, hz2⟩ := info_parts infoL
  obtain ⟨v', w', hrun, h1', h2, _⟩ := run_append_own (P := Try.prog) w lo 29 ty 22 i0 (.slice none 0 0) 1 24 Try.underlying29 hi0 hz0 hz1 hz2 rfl (by decide) v n vs hown
      ⟨b, 0, none⟩ 1 c [u] rfl (fun j u' hj => by
        cases j with
        | zero =>
          have : u = u' := by simpa using hj
          rw [← this]; exact hu
        | succ j => simp at hj) (fun u' hu' => by rw [List.mem_singleton.1 hu']; exact h1) (by unfold maxLen; omega) (by omega) hlo
  rcases h1'.2 with ⟨_, h0⟩ | ⟨g, cap, cur, rfl, _⟩
  · omega
  · exact ⟨_, cap, w', hrun, h1', h2⟩

theorem wpList_appL {w : World} {ops : Array Oper} {rest : List Oper} {o : Oper} {a : Act} {Q : Exit → Act → World → Prop} (hgd : o.guard = none) (s x : Operand)
    (hop : o.op = .call { callee := .builtin .append, args := #[s, x], argTypes := #[29, 29] })
    {lo n : Nat} {A0 : Option Addr} {n0 c0 : Nat} {u : Value} {vs : List Value} (hs : a.eval s = .slice A0 n0 c0) (hown : w.ownsRow lo 22 1 (.slice A0 n0 c0) n vs) (hlo : lo ≤ w.heap.size) {b c : Nat} (hx : a.eval x = .slice (some ⟨b, 0, none⟩) 1 c)
    (hu : w.cell? ⟨b, 0, none⟩ = some u) (h1 : u.oneCell' = true) (hz : n + 1 ≤ 1000000) (n1 : Nat) (hn1 : n1 = n + 1)
    (h : ∀ A' c' w', w'.ownsRow lo 22 1 (.slice A' n1 c') n1 (vs ++ [u]) → w.grownBy w' (Value.slice A0 n0 c0).ownBlock → wpList Try.prog ops Q rest (a.put o.dst (.slice A' n1 c')) w') :
    wpList Try.prog ops Q (o :: rest) a w := by
  subst hn1
  refine wpList_plain hgd fun K hK => ?_
  obtain ⟨A', c', w', hr2, h1, h2⟩ := run_appL hown hlo (c := c) hu h1 hz o.type
  unfold Oper.wp execOp
  simp only [hop, resolve, invoke, builtin, Sem.run_bind, Sem.run_pure, Result.andThen_ok, List.map_toArray, List.map_cons, List.map_nil, hs, hx, hr2]
  exact hK _ _ (h A' c' w' h1 h2)
end Go.Proofs.Ytbcmpgagceomgaa
