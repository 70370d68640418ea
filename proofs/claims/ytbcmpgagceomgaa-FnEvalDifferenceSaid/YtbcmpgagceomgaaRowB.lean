/- Bytes that came in, as the source of random numbers takes them. -/
import Derived.Test.YtbcmpgagceomgaaRd
namespace Go.Proofs.Ytbcmpgagceomgaa
open Go.RowKit

theorem IsRow.rowB {w : World} {a : Option Addr} {len cap : Nat} {zs : List Int} (h : IsRow .u8 w a len cap zs) : RowB w w.heap.size a len ∧ len ≤ cap := by
  rcases h with ⟨rfl, rfl, rfl, rfl⟩ | ⟨x, rfl, hl, hm, hz, hcell, hwz⟩
  · exact ⟨fun k hk => absurd hk (by omega), Nat.le_refl _⟩
  · refine ⟨fun k hk => ?_, by omega⟩
    have hc := hcell k (by omega)
    obtain ⟨b, off, spot⟩ := x
    have hspot : spot = none := by
      simpa [Addr.add] using World.cell?_spot (hcell 0 (by omega))
    subst hspot
    have e : (⟨b, off, none⟩ : Addr).add k = ⟨b, off + k, none⟩ := by
      unfold Addr.add; split
      · rename_i h0; subst h0; rfl
      · rfl
    rw [e] at hc
    have hk2 : k < zs.length := by omega
    have hw := hwz zs[k] (List.getElem_mem hk2)
    have hget : zs.getD k 0 = zs[k] := by rw [List.getD_eq_getElem?_getD, List.getElem?_eq_getElem hk2]; rfl
    refine ⟨b, off, zs[k], rfl, ?_, by rw [hc, hget], ?_⟩
    · apply Classical.byContradiction
      intro hn
      unfold World.cell? at hc
      rw [Array.getElem?_eq_none (by show w.heap.size ≤ b; omega)] at hc
      cases hc
    · simp [Lit.wf, IntKind.min, IntKind.max, IntKind.bits, IntKind.signed] at hw
      omega

end Go.Proofs.Ytbcmpgagceomgaa
