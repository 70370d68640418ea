/- Appending a list of integers to one of the call's own; a list of one new number; a cut of a list. -/
import Derived.Test.YtbcmpgagceomgaaLists
import Derived.OwnWalk
import Derived.Lib.SliceRun
import Derived.Deep.RegionLaw
namespace Go.Proofs.Ytbcmpgagceomgaa
open Go.RowKit

/-- What the law asks of the new elements, out of 'Row'. -/
theorem Row.news {w : World} {B : Nat} {a : Addr} {ys : List Int} (h : Row w B (some a) ys) : ∀ j u, (ints ys)[j]? = some u → w.cell? (a.add j) = some u := by
  intro j u hu
  have hj : j < ys.length := by
    have := (List.getElem?_eq_some_iff.1 hu).1
    rwa [ints_length] at this
  obtain ⟨b, o, e, _, hc⟩ := h j hj
  rw [Option.some.injEq] at e
  subst e
  have e2 : (⟨b, o, none⟩ : Addr).add j = ⟨b, o + j, none⟩ := by
    unfold Addr.add; split
    · rename_i h0; subst h0; rfl
    · rfl
  rw [ints_at hj, Option.some.injEq] at hu
  rw [e2, hc, hu]
theorem ints_one (xs : List Int) : ∀ u ∈ ints xs, u.oneCell' = true := by
  intro u hu
  obtain ⟨x, _, rfl⟩ := List.mem_map.1 hu
  rfl

/-- The block of an own row. -/
theorem Own.blk {w : World} {lo hi : Nat} {v : Value} {xs : List Int} (h : Own w lo hi v xs) : ∀ g, v.ownBlock = some g → lo ≤ g ∧ g < hi :=
  fun g hg => ⟨(World.ownsRow.lt h.1 g hg).1, h.2 g hg⟩
theorem Own.form {w : World} {lo hi : Nat} {v : Value} {xs : List Int} (h : Own w lo hi v xs) : ∃ A c, v = .slice A xs.length c ∧ xs.length ≤ c := by
  rcases h.1.2 with ⟨rfl, h0⟩ | ⟨g, cap, cur, rfl, _, _, hn, _⟩
  · exact ⟨none, 0, by rw [h0], by omega⟩
  · exact ⟨_, cap, rfl, hn⟩
theorem Own.cap {w : World} {lo hi : Nat} {A : Option Addr} {c : Nat} {xs : List Int} (h : Own w lo hi (.slice A xs.length c) xs) : xs.length ≤ c := by
  obtain ⟨A', c', e, hc⟩ := h.form
  simp only [Value.slice.injEq] at e
  omega

theorem run_app {w : World} {lo hi : Nat} {v : Value} {xs : List Int} (hown : Own w lo hi v xs) (hlo : lo ≤ w.heap.size) {B : Nat} {A : Option Addr} {ys : List Int} {c : Nat} (hr : Row w B A ys) (hz : xs.length + ys.length ≤ 1000000000) (ty : TypeId) :
    ∃ A' c' w', (Builtin.append_ #[22, 22] ty #[v, .slice A ys.length c]).run Try.prog w = .ok (.slice A' (xs.length + ys.length) c') w' ∧
      Own w' lo w'.heap.size (.slice A' (xs.length + ys.length) c') (xs ++ ys) ∧ w.grownBy w' v.ownBlock := by
  obtain ⟨i0, hi0, hz0, hz1, hz2⟩ := info_parts infoI
  have fin : ∀ v' w', w'.ownsRow lo 3 1 v' (xs.length + ys.length) (ints xs ++ ints ys) → ∃ A' c', v' = .slice A' (xs.length + ys.length) c' ∧ Own w' lo w'.heap.size v' (xs ++ ys) := by
    intro v' w' h
    have e : ints xs ++ ints ys = ints (xs ++ ys) := by simp [ints]
    rw [e] at h
    have h2 : Own w' lo w'.heap.size v' (xs ++ ys) := ⟨by rw [List.length_append]; exact h, fun g hg => (World.ownsRow.lt h g hg).2⟩
    obtain ⟨A', c', e2, _⟩ := h2.form
    rw [List.length_append] at e2
    exact ⟨A', c', e2, h2⟩
  cases A with
  | some a =>
    obtain ⟨v', w', hrun, h1, h2, _⟩ := run_append_own (P := Try.prog) w lo 22 ty 3 i0 (.int .i64 0) 1 8 Try.underlying22 hi0 hz0 hz1 hz2 rfl (by decide) v xs.length (ints xs) hown.1
      a ys.length c (ints ys) (by rw [ints_length, Nat.mul_one]) hr.news (ints_one ys) (by unfold maxLen; omega) (by omega) hlo
    obtain ⟨A', c', rfl, ho⟩ := fin v' w' h1
    exact ⟨A', c', w', hrun, ho, h2⟩
  | none =>
    have hy : ys = [] := by
      cases ys with
      | nil => rfl
      | cons y ys =>
        obtain ⟨b, o, e, _⟩ := hr 0 (by simp)
        cases e
    subst hy
    have hrun : (Builtin.append_ #[22, 22] ty #[v, .slice none 0 c]).run Try.prog w = .ok v w := by
      rcases hown.1.2 with ⟨rfl, h0⟩ | ⟨g, cap, cur, rfl, _, _, hnc, _⟩
      · simp [Builtin.append_, run_underlying Try.underlying22, sizeOf, typeInfo, hi0, Builtin.lenOf, Builtin.firstCells]
      · simp [Builtin.append_, run_underlying Try.underlying22, sizeOf, typeInfo, hi0, Builtin.lenOf, Builtin.firstCells, hnc, storeCells]
    obtain ⟨A', c', e, ho⟩ := fin v w (by have h := hown.1; simpa [ints] using h)
    refine ⟨A', c', w, ?_, e ▸ ho, World.grownBy.refl w _⟩
    rw [← e]
    exact hrun

theorem wpList_app {w : World} {ops : Array Oper} {rest : List Oper} {o : Oper} {a : Act} {Q : Exit → Act → World → Prop} (hgd : o.guard = none) (s x : Operand)
    (hop : o.op = .call { callee := .builtin .append, args := #[s, x], argTypes := #[22, 22] })
    {lo hi : Nat} {A0 : Option Addr} {n0 c0 : Nat} {xs : List Int} (hs : a.eval s = .slice A0 n0 c0) (hown : Own w lo hi (.slice A0 n0 c0) xs) (hlo : lo ≤ w.heap.size) {B : Nat} {A : Option Addr} {ys : List Int} {m c : Nat} (hx : a.eval x = .slice A m c) (hm : m = ys.length)
    (hr : Row w B A ys) (hz : xs.length + ys.length ≤ 1000000000) (n1 : Nat) (hn1 : n1 = xs.length + ys.length)
    (h : ∀ A' c' w', Own w' lo w'.heap.size (.slice A' n1 c') (xs ++ ys) → w.grownBy w' (Value.slice A0 n0 c0).ownBlock → wpList Try.prog ops Q rest (a.put o.dst (.slice A' n1 c')) w') :
    wpList Try.prog ops Q (o :: rest) a w := by
  subst hm hn1
  refine wpList_plain hgd fun K hK => ?_
  obtain ⟨A', c', w', hr2, h1, h2⟩ := run_app hown hlo (c := c) hr hz o.type
  unfold Oper.wp execOp
  simp only [hop, resolve, invoke, builtin, Sem.run_bind, Sem.run_pure, Result.andThen_ok, List.map_toArray, List.map_cons, List.map_nil, hs, hx, hr2]
  exact hK _ _ (h A' c' w' h1 h2)

/-- The same inside a region that draws its order. -/
theorem step_app {w : World} {ops : Array Oper} {o : Oper} {a : Act} {K : Act → World → Prop} {Q : Exit → Act → World → Prop} {E : Prop} (hgd : o.guard = none) (s x : Operand)
    (hop : o.op = .call { callee := .builtin .append, args := #[s, x], argTypes := #[22, 22] })
    {lo hi : Nat} {A0 : Option Addr} {n0 c0 : Nat} {xs : List Int} (hs : a.eval s = .slice A0 n0 c0) (hown : Own w lo hi (.slice A0 n0 c0) xs) (hlo : lo ≤ w.heap.size) {B : Nat} {A : Option Addr} {ys : List Int} {m c : Nat} (hx : a.eval x = .slice A m c) (hm : m = ys.length)
    (hr : Row w B A ys) (hz : xs.length + ys.length ≤ 1000000000) (n1 : Nat) (hn1 : n1 = xs.length + ys.length)
    (h : ∀ A' c' w', Own w' lo w'.heap.size (.slice A' n1 c') (xs ++ ys) → w.grownBy w' (Value.slice A0 n0 c0).ownBlock → K (a.put o.dst (.slice A' n1 c')) w') :
    if Region.wanted o (yielded ops a.tmps) = true then Oper.wp Try.prog o a w K Q else E := by
  have hw : Region.wanted o (yielded ops a.tmps) = true := by simp [Region.wanted, hgd]
  rw [if_pos hw]
  subst hm hn1
  obtain ⟨A', c', w', hr2, h1, h2⟩ := run_app hown hlo (c := c) hr hz o.type
  unfold Oper.wp execOp
  simp only [hop, resolve, invoke, builtin, Sem.run_bind, Sem.run_pure, Result.andThen_ok, List.map_toArray, List.map_cons, List.map_nil, hs, hx, hr2]
  exact h A' c' w' h1 h2

/-- A new block of one number. -/
theorem Row.single (w : World) (x : Int) (t : TypeId) : Row (w.alloc (.cells #[.int .i64 x] t)) (w.heap.size + 1) (some ⟨w.heap.size, 0, none⟩) [x] := by
  intro k hk
  have hk0 : k = 0 := by simpa using hk
  subst hk0
  exact ⟨w.heap.size, 0, rfl, by omega, by rw [World.cell?_alloc_at _ _ _ _ rfl]; rfl⟩
/-- A new empty row; a new row of one number. -/
theorem Own.empty (w : World) : Own (w.alloc (.cells #[] 3)) w.heap.size (w.alloc (.cells #[] 3)).heap.size (.slice (some ⟨w.heap.size, 0, none⟩) 0 0) [] :=
  Own.block (xs := []) (Blk.new w _ _) rfl (Nat.le_refl _) (Blk.new w _ _).lt (by simp)
theorem Own.one (w : World) (x : Int) : Own (w.alloc (.cells #[.int .i64 x] 3)) w.heap.size (w.alloc (.cells #[.int .i64 x] 3)).heap.size (.slice (some ⟨w.heap.size, 0, none⟩) 1 1) [x] :=
  Own.block (xs := [x]) (Blk.new w _ _) rfl (Nat.le_refl _) (Blk.new w _ _).lt (by unfold maxLen; simp)
theorem Own.none_ (w : World) (lo hi : Nat) : Own w lo hi (.slice none 0 0) [] := ⟨World.ownsRow_nil w lo _ 1, fun g hg => by simp [Value.ownBlock] at hg⟩
theorem below_grown {B lo hi : Nat} {a w w' : World} {v : Value} {xs : List Int} (h : Below B a w) (hg : w.grownBy w' v.ownBlock) (ho : Own w lo hi v xs) (hB : B ≤ w.heap.size) (hlo : B ≤ lo) : Below B a w' :=
  h.grown hg hB fun k hk => Nat.le_trans hlo (ho.blk k hk).1
/-- Above the block that grew nothing else has turned. -/
theorem Own.grown {w w' : World} {lo hi lo2 hi2 : Nat} {v v2 : Value} {xs xs2 : List Int} (h : Own w lo hi v xs) (hg : w.grownBy w' v2.ownBlock) (h2 : Own w lo2 hi2 v2 xs2) (hsep : hi ≤ lo2 ∨ hi2 ≤ lo) (hhi : hi ≤ w.heap.size) : Own w' lo hi v xs :=
  h.keep fun k h1 hk => hg.block k (by omega) (fun e => by have := h2.blk k e.symm; omega)

/-- A cut of a list. -/
theorem Row.cut {w : World} {B b o : Nat} {xs : List Int} {k : Nat} (h : Row w B (some ⟨b, o, none⟩) xs) : Row w B (some ⟨b, o + k, none⟩) (xs.drop k) := by
  intro j hj
  rw [List.length_drop] at hj
  obtain ⟨b', o', e, hlt, hc⟩ := h (k + j) (by omega)
  simp only [Option.some.injEq, Addr.mk.injEq, and_true] at e
  obtain ⟨rfl, rfl⟩ := e
  exact ⟨b, o + k, rfl, hlt, by rw [List.getElem_drop, Nat.add_assoc]; exact hc⟩
theorem Row.head {w : World} {B : Nat} {A : Option Addr} {xs : List Int} {k : Nat} (h : Row w B A xs) : Row w B A (xs.take k) := by
  intro j hj
  rw [List.length_take] at hj
  obtain ⟨b', o', e, hlt, hc⟩ := h j (by omega)
  exact ⟨b', o', e, hlt, by rw [List.getElem_take]; exact hc⟩
/-- Behind an append to a row that the call has just made: nothing old has turned. -/
theorem below_new {w w' : World} {t : TypeId} {cs : Array Value} {n c : Nat} (hg : (w.alloc (.cells cs t)).grownBy w' (Value.slice (some ⟨w.heap.size, 0, none⟩) n c).ownBlock) : Below w.heap.size w w' :=
  ((Below.refl w.heap.size w).alloc (Nat.le_refl _) _).grown hg (by simp) fun k hk => by
    have : w.heap.size = k := by simpa [Value.ownBlock] using hk
    omega
end Go.Proofs.Ytbcmpgagceomgaa
