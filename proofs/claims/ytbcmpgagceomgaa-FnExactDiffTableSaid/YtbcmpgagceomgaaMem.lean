/- Blocks that a call has made: what they hold, how a store turns them, what a string made of one is. -/
import Derived.Test.YtbcmpgagceomgaaBase
import Derived.Test.YtbcmpgagceomgaaColPlain
namespace Go.Proofs.Ytbcmpgagceomgaa
open Go.RowKit

/-- Block g is just these cells, of this element type, none of them frozen. -/
def Blk (w : World) (g : Nat) (t : TypeId) (cs : Array Value) : Prop := w.heap[g]? = some (.cells cs t (0, 0))
theorem Blk.lt {w : World} {g : Nat} {t : TypeId} {cs : Array Value} (h : Blk w g t cs) : g < w.heap.size := by
  apply Classical.byContradiction
  intro hn
  unfold Blk at h
  rw [Array.getElem?_eq_none (by omega)] at h
  cases h
theorem Blk.cell {w : World} {g : Nat} {t : TypeId} {cs : Array Value} (h : Blk w g t cs) (i : Nat) : w.cell? ⟨g, i, none⟩ = cs[i]? := by
  unfold Blk at h
  unfold World.cell?
  simp [h]
theorem Blk.free {w : World} {g : Nat} {t : TypeId} {cs : Array Value} (h : Blk w g t cs) (i : Nat) : w.frozen? ⟨g, i, none⟩ = false := by
  unfold Blk at h
  unfold World.frozen?
  simp [h]
theorem Blk.put {w : World} {g : Nat} {t : TypeId} {cs : Array Value} (h : Blk w g t cs) (i : Nat) (u : Value) : Blk (w.setCell ⟨g, i, none⟩ u) g t (cs.setIfInBounds i u) := by
  unfold Blk at h ⊢
  simp [World.setCell, Array.getElem?_modify, h]
theorem Blk.new (w : World) (t : TypeId) (cs : Array Value) : Blk (w.alloc (.cells cs t)) w.heap.size t cs := heap_alloc_new w _
theorem Blk.keep {w w' : World} {g : Nat} {t : TypeId} {cs : Array Value} (h : Blk w g t cs) {B : Nat} (hb : Below B w w') (hg : g < B) : Blk w' g t cs := (hb.block g hg).trans h
theorem Blk.stay {w w' : World} {g : Nat} {t : TypeId} {cs : Array Value} (h : Blk w g t cs) (he : w'.heap[g]? = w.heap[g]?) : Blk w' g t cs := he.trans h

/-- Cells that hold bytes. -/
def cB (l : List UInt8) : Array Value := (l.map (fun c => Value.int .u8 (c.toNat : Int))).toArray
theorem cB_at {l : List UInt8} {i : Nat} (h : i < l.length) : (cB l)[i]? = some (.int .u8 (l[i].toNat : Int)) := by
  simp [cB, List.getElem?_eq_getElem h]
theorem cB_set (l : List UInt8) (i : Nat) (c : UInt8) : (cB l).setIfInBounds i (.int .u8 (c.toNat : Int)) = cB (l.set i c) := by
  unfold cB
  apply Array.toList_inj.1
  simp [List.map_set]
theorem cB_made (n : Nat) : madeCells #[.int .u8 0] n = cB (List.replicate n 0) := by
  apply Array.toList_inj.1
  rw [toList_madeCells_one]
  simp [cB]
theorem cB_cell {w : World} {g : Nat} {t : TypeId} {l : List UInt8} (h : Blk w g t (cB l)) {i : Nat} (hi : i < l.length) : w.cell? ⟨g, i, none⟩ = some (.int .u8 (l[i].toNat : Int)) := by
  rw [h.cell, cB_at hi]
theorem cB_some {w : World} {g : Nat} {t : TypeId} {l : List UInt8} (h : Blk w g t (cB l)) {i : Nat} (hi : i < l.length) : ∃ u, w.cell? ⟨g, i, none⟩ = some u := ⟨_, cB_cell h hi⟩

theorem infoB : (Try.prog.info? 5).map (fun i => (i.zero, i.size, i.bytes)) = some (some (.int .u8 0), 1, 1) := by kernel_rfl

/-- make([]byte, n). -/
theorem make_bytes (n : Nat) (hn : n ≤ 1000000000) (z : Int) (hz : z = n) (W : World) :
    (Instr.makeSlice 35 (.int .i64 z) (.int .i64 z)).run Try.prog W = .ok (.slice (some ⟨W.heap.size, 0, none⟩) n n) (W.alloc (.cells (cB (List.replicate n 0)) 5)) := by
  subst hz
  obtain ⟨i0, hi, hz0, hz1, hz2⟩ := info_parts infoB
  have hr := run_make (P := Try.prog) W 35 5 i0 (.int .u8 0) Try.underlying35 hi hz0 .i64 .i64 n n (by omega) (Int.le_refl _) (by rw [hz2]; omega) (by omega)
  simp only [Int.toNat_natCast, hz1, Nat.mul_one] at hr
  rw [hr]
  show Result.ok _ (W.alloc (.cells (madeCells #[.int .u8 0] n) _)) = _
  rw [cB_made]

/-- string(b). -/
theorem string_of {W : World} {g : Nat} {l : List UInt8} (h : Blk W g 5 (cB l)) (n cap : Nat) (hn : n = l.length) :
    (convert 35 9 (.slice (some ⟨g, 0, none⟩) n cap)).run Try.prog W = .ok (.string (str l)) W := by
  subst hn
  refine run_convert_bytes_back W 35 9 5 ⟨g, 0, none⟩ cap l Try.underlying35 Try.underlying5 Try.underlying9 (fun j hj => ?_)
  have e : (⟨g, 0, none⟩ : Addr).add j = ⟨g, j, none⟩ := by
    unfold Addr.add; split
    · rename_i h0; subst h0; rfl
    · simp
  rw [e, cB_cell h hj]
end Go.Proofs.Ytbcmpgagceomgaa
