/- Slices of integers: what one that came in reads as, what one of the call's own holds, and how both are kept. -/
import Derived.Test.YtbcmpgagceomgaaBase
namespace Go.Proofs.Ytbcmpgagceomgaa
open Go.RowKit

/-- Nothing that was there has turned: only draws, and blocks of its own that are left behind. -/
def Calm (w w' : World) : Prop := ∀ B, B ≤ w.heap.size → Below B w w'
theorem Calm.refl (w : World) : Calm w w := fun _ _ => Below.refl _ _
theorem Calm.to {w w' : World} (h : Calm w w') : Below w.heap.size w w' := h _ (Nat.le_refl _)
theorem Calm.of {w w' : World} (h : Below w.heap.size w w') : Calm w w' := fun _ hB => h.mono hB
theorem Calm.drew {w w' : World} (h : Calm w w') : Calm w w'.drew := fun B hB => (h B hB).drew
theorem Calm.drewN {w w' : World} (h : Calm w w') (n : Nat) : Calm w (w'.drewN n) := fun B hB =>
  have h := h B hB
  ⟨h.os, h.tape, h.output, h.size, h.block⟩

/-- The slice of length xs.length at the address A reads as xs; its cells lie below block B. -/
def Row (w : World) (B : Nat) (A : Option Addr) (xs : List Int) : Prop :=
  ∀ k (h : k < xs.length), ∃ b o, A = some ⟨b, o, none⟩ ∧ b < B ∧ w.cell? ⟨b, o + k, none⟩ = some (.int .i64 xs[k])
theorem Row.nil (w : World) (B : Nat) (A : Option Addr) : Row w B A [] := fun _ h => absurd h (by simp)
theorem Row.keep {w w' : World} {B : Nat} {A : Option Addr} {xs : List Int} (h : Row w B A xs) (hb : Below B w w') : Row w' B A xs := fun k hk => by
  obtain ⟨b, o, hA, hlt, hc⟩ := h k hk
  exact ⟨b, o, hA, hlt, by rw [hb.cell (p := ⟨b, o + k, none⟩) hlt]; exact hc⟩
theorem Row.more {w : World} {B B' : Nat} {A : Option Addr} {xs : List Int} (h : Row w B A xs) (hB : B ≤ B') : Row w B' A xs := fun k hk => by
  obtain ⟨b, o, hA, hlt, hc⟩ := h k hk
  exact ⟨b, o, hA, by omega, hc⟩

theorem IsRow.row {w : World} {a : Option Addr} {len cap : Nat} {zs : List Int} (h : IsRow .i64 w a len cap zs) :
    ∃ xs : List Int, xs.length = len ∧ Row w w.heap.size a xs ∧ (∀ x ∈ xs, (Lit.int .i64 x).wf = true) := by
  rcases h with ⟨rfl, rfl, rfl, rfl⟩ | ⟨x, rfl, hl, hm, hz, hcell, hwz⟩
  · exact ⟨[], rfl, Row.nil _ _ _, fun x hx => by cases hx⟩
  · refine ⟨zs.take len, by rw [List.length_take]; omega, fun k hk => ?_, fun y hy => hwz y (List.mem_of_mem_take hy)⟩
    rw [List.length_take] at hk
    have hc := hcell k (by omega)
    obtain ⟨b, off, spot⟩ := x
    have hspot : spot = none := by
      simpa [Addr.add] using World.cell?_spot (hcell 0 (by omega))
    subst hspot
    have e : (⟨b, off, none⟩ : Addr).add k = ⟨b, off + k, none⟩ := by
      unfold Addr.add; split
      · rename_i h0; subst h0; rfl
      · rfl
    rw [e] at hc
    refine ⟨b, off, rfl, ?_, ?_⟩
    · apply Classical.byContradiction
      intro hn
      unfold World.cell? at hc
      rw [Array.getElem?_eq_none (by show w.heap.size ≤ b; omega)] at hc
      cases hc
    · rw [hc, List.getElem_take, List.getD_eq_getElem?_getD, List.getElem?_eq_getElem (by omega)]
      rfl

/-- Integers as cells. -/
def ints (xs : List Int) : List Value := xs.map (Value.int .i64)
theorem ints_length (xs : List Int) : (ints xs).length = xs.length := by simp [ints]
theorem ints_at {xs : List Int} {k : Nat} (h : k < xs.length) : (ints xs)[k]? = some (.int .i64 xs[k]) := by simp [ints, List.getElem?_eq_getElem h]
theorem ints_set (xs : List Int) (k : Nat) (x : Int) : (ints xs).set k (.int .i64 x) = ints (xs.set k x) := by simp [ints, List.map_set]

/-- The slice value v is a row of the call's own, in a block from lo on and below hi, that holds xs. -/
def Own (w : World) (lo hi : Nat) (v : Value) (xs : List Int) : Prop :=
  w.ownsRow lo 3 1 v xs.length (ints xs) ∧ ∀ g, v.ownBlock = some g → g < hi
theorem Own.row {w : World} {lo hi : Nat} {A : Option Addr} {n cap : Nat} {xs : List Int} (h : Own w lo hi (.slice A n cap) xs) : Row w hi A xs := fun k hk => by
  obtain ⟨h, hlt⟩ := h
  rcases h.2 with ⟨h', h0⟩ | ⟨g, cap', cur, h', hb, hg, hnc, hcm, hcs, htake⟩
  · omega
  · simp only [Value.slice.injEq] at h'
    obtain ⟨rfl, rfl, rfl⟩ := h'
    refine ⟨g, 0, rfl, hlt g rfl, ?_⟩
    have := World.ownsRow.cellAt (xs := ints xs) (n := xs.length) (cap := cap) (g := g) h k (by omega)
    rw [Nat.zero_add, this, ints_at hk]
theorem Own.keep {w w' : World} {lo hi : Nat} {v : Value} {xs : List Int} (h : Own w lo hi v xs) (hb : ∀ k, lo ≤ k → k < hi → w'.heap[k]? = w.heap[k]?) : Own w' lo hi v xs := by
  obtain ⟨h, hlt⟩ := h
  refine ⟨⟨h.1, ?_⟩, hlt⟩
  rcases h.2 with h0 | ⟨g, cap, cur, rfl, hlo, hg, r⟩
  · exact .inl h0
  · exact .inr ⟨g, cap, cur, rfl, hlo, (hb g hlo (hlt g rfl)).trans hg, r⟩
theorem Own.below {w w' : World} {lo hi B : Nat} {v : Value} {xs : List Int} (h : Own w lo hi v xs) (hb : Below B w w') (hB : hi ≤ B) : Own w' lo hi v xs :=
  h.keep fun k _ hk => hb.block k (by omega)
theorem Own.loosen {w : World} {lo hi lo' hi' : Nat} {v : Value} {xs : List Int} (h : Own w lo hi v xs) (h1 : lo' ≤ lo) (h2 : hi ≤ hi') : Own w lo' hi' v xs := by
  obtain ⟨h, hlt⟩ := h
  refine ⟨⟨h.1, ?_⟩, fun g hg => by have := hlt g hg; omega⟩
  rcases h.2 with h0 | ⟨g, cap, cur, e, hlo, r⟩
  · exact .inl h0
  · exact .inr ⟨g, cap, cur, e, by omega, r⟩

/-- What a function that makes a list of integers of its own leaves. -/
def Gives (w : World) (xs : List Int) (e : Ending) (w' : World) : Prop :=
  ∃ A cap, e = .returned (.slice A xs.length cap) ∧ Own w' w.heap.size w'.heap.size (.slice A xs.length cap) xs ∧ Below w.heap.size w w'

/-- A block of integers of the call's own, as a slice. -/
theorem Own.block {w : World} {lo hi g : Nat} {t : TypeId} {xs : List Int} (h : w.heap[g]? = some (.cells (ints xs).toArray t (0, 0))) (ht : t = 3) (h1 : lo ≤ g) (h2 : g < hi) (h3 : xs.length ≤ maxLen) :
    Own w lo hi (.slice (some ⟨g, 0, none⟩) xs.length xs.length) xs := by
  subst ht
  refine ⟨⟨by rw [ints_length, Nat.mul_one], .inr ⟨g, xs.length, (ints xs).toArray, rfl, h1, h, Nat.le_refl _, h3, by simp [ints], ?_⟩⟩, fun g' hg' => ?_⟩
  · rw [List.take_of_length_le (by simp [ints])]
  · have : g = g' := by simpa [Value.ownBlock] using hg'
    omega
end Go.Proofs.Ytbcmpgagceomgaa
