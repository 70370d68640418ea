/- The lists that are alive in an exact law's walk: where each lies, and how it outlasts each step. -/
import Derived.Test.YtbcmpgagceomgaaMark
namespace Go.Proofs.Ytbcmpgagceomgaa
open Go.RowKit

/-- A list of the call's own: it lies in a block from lo (not below B0) on and below hi. -/
def Has (B0 : Nat) (w : World) (lo hi : Nat) (v : Value) (xs : List Int) : Prop := Own w lo hi v xs ∧ hi ≤ w.heap.size ∧ B0 ≤ lo
theorem Has.new {B0 : Nat} {w w' : World} {v : Value} {xs : List Int} (h : Own w' w.heap.size w'.heap.size v xs) (hB : B0 ≤ w.heap.size) : Has B0 w' w.heap.size w'.heap.size v xs := ⟨h, Nat.le_refl _, hB⟩
theorem Has.next {B0 lo hi : Nat} {w w' : World} {v : Value} {xs : List Int} (h : Has B0 w lo hi v xs) (hb : Below w.heap.size w w') : Has B0 w' lo hi v xs :=
  ⟨h.1.below hb h.2.1, Nat.le_trans h.2.1 hb.size, h.2.2⟩
theorem Has.calm {B0 lo hi : Nat} {w w' : World} {v : Value} {xs : List Int} (h : Has B0 w lo hi v xs) (hb : Calm w w') : Has B0 w' lo hi v xs := h.next hb.to
theorem Has.marked {B0 lo hi lo2 hi2 : Nat} {w w' : World} {v v2 : Value} {xs xs2 : List Int} (h : Has B0 w lo hi v xs) (hg : w.grownBy w' v2.ownBlock) (h2 : Has B0 w lo2 hi2 v2 xs2) (hsep : hi ≤ lo2 ∨ hi2 ≤ lo) : Has B0 w' lo hi v xs :=
  ⟨h.1.grown hg h2.1 hsep h.2.1, Nat.le_trans h.2.1 hg.size, h.2.2⟩
theorem Has.row {B0 lo hi : Nat} {w : World} {A : Option Addr} {n c : Nat} {xs : List Int} (h : Has B0 w lo hi (.slice A n c) xs) : Row w w.heap.size A xs := h.1.row.more h.2.1
theorem Has.below {lo hi : Nat} {a w w' : World} {v : Value} {xs : List Int} (h : Has a.heap.size w lo hi v xs) (hb : Below a.heap.size a w) (hg : w.grownBy w' v.ownBlock) : Below a.heap.size a w' :=
  below_grown hb hg h.1 hb.size h.2.2
/-- The arguments outlast all of it. -/
theorem Row.still {w w' : World} {A : Option Addr} {xs : List Int} (h : Row w w.heap.size A xs) (hb : Below w.heap.size w w') : Row w' w'.heap.size A xs := (h.keep hb).more hb.size
end Go.Proofs.Ytbcmpgagceomgaa
