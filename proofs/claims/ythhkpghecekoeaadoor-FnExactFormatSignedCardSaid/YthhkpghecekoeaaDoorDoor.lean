/- What the listed variables give the walks; one start that fits. -/
import Derived.Test.YthhkpghecekoeaaDoorNumWalk
import Derived.Test.YthhkpghecekoeaaDoorTie
import Derived.LaidMore
import Derived.Stop.Joined
import Derived.Stop.LaidErr
import Derived.Lib.LaidTab
import Derived.MakeChecks
namespace Go.Proofs.YthhkpghecekoeaaDoor
open Go.ChangeShapes Go.WideShapes Go.ChangeAt Go.RowKit

theorem TabAt.of_is {w : World} {nm : String} (h : Lib.TabIs Tryd.prog w nm .u64 Lib.pow10Tab) (hn : Tryd.prog.globalNamed nm = some 2) : TabAt w := by
  unfold Lib.TabIs World.var? at h
  rw [hn] at h
  simp only [Option.bind_some] at h
  split at h
  · rename_i cs t f heq
    rw [Option.some.injEq] at h
    subst h
    exact ⟨t, f, heq⟩
  · cases h
theorem ErrAt.of_var {w : World} {nm : String} {tp : TypeId} {p : Value} (h : w.var? Tryd.prog nm = some #[.iface tp p]) (hn : Tryd.prog.globalNamed nm = some 0) : ErrAt w := by
  unfold World.var? at h
  rw [hn] at h
  simp only [Option.bind_some] at h
  split at h
  · rename_i cs t f heq
    rw [Option.some.injEq] at h
    subst h
    exact ⟨tp, p, t, f, heq⟩
  · cases h
/-- The name of the type of the errors that errors.New makes, as the rows give it. -/
def erName : String := match (Rows.laid_strconv_ErrSyntax (H := Unit)) with
  | .iface n _ => n
  | _ => "none"
theorem rowErr (u : TypeId) (h : Tryd.prog.typeName? 3 u = some erName) : u = 86 :=
  typeName_ptr_named (nm := "errors.errorString") (by simp only [String.reduceAppend]; kernel_rfl) (by kernel_rfl) (by decide) u (h.trans (congrArg some (by decide +kernel)))

theorem tab_laid {x y : String × DataW Unit} {nm : String} {r : List (String × DataW Unit)} {W : World} (h : laidMet Tryd.prog (x :: y :: (nm, Lib.tabData .u64 Lib.pow10Tab) :: r) W) (hn : Tryd.prog.globalNamed nm = some 2) : TabAt W :=
  TabAt.of_is (Lib.tabIs_of_head hn (by kernel_rfl) Tryd.underlying80 Tryd.underlying68 (by kernel_rfl) (by kernel_rfl) h.tail.tail) hn
theorem err_laid {x y z u : String × DataW Unit} {nm : String} {text : List UInt8} {r : List (String × DataW Unit)} {W : World} (h : laidMet Tryd.prog (x :: y :: z :: u :: (nm, .iface erName (.ptr (.agg [.lit (.string text)]))) :: r) W) (hn : Tryd.prog.globalNamed nm = some 0) : ErrAt W := by
  obtain ⟨a0, s0, hv0, -, -, -⟩ := laid_sentinel h.tail.tail.tail.tail hn (by kernel_rfl) Tryd.underlying42 rowErr Tryd.underlying86 Tryd.underlying88 rfl rfl Tryd.underlying9 (by kernel_rfl) (by kernel_rfl)
  exact ErrAt.of_var hv0 hn

theorem of_laid3 {W : World} (h : laidMetH Tryd.prog Rows.fnExactFormatSignedRow.laid W) : TabAt W := by
  rw [MakeChecks.laidMetH_plain _ _ _ (by kernel_rfl)] at h
  exact tab_laid h (by kernel_rfl)
theorem of_laid5 {W : World} (h : laidMetH Tryd.prog Rows.fnSignedRow.laid W) : TabAt W ∧ ErrAt W := by
  rw [MakeChecks.laidMetH_plain _ _ _ (by kernel_rfl)] at h
  exact ⟨tab_laid h (by kernel_rfl), err_laid h (by kernel_rfl)⟩
theorem door_met3 (os : Os) (args : Array Value) : laidMetH Tryd.prog Rows.fnExactFormatSignedRow.laid ((World.doorLaid Tryd.prog 4000 os).forCall (fun _ _ => 0) ⟨#[], args, []⟩).memory :=
  laidMetH_of_parts3 (fuel := 80) (laidMet_of_run' 80 (by kernel_rfl) (by kernel_rfl)) (by kernel_rfl) (by kernel_rfl)
theorem door_met5 (os : Os) (args : Array Value) : laidMetH Tryd.prog Rows.fnSignedRow.laid ((World.doorLaid Tryd.prog 4000 os).forCall (fun _ _ => 0) ⟨#[], args, []⟩).memory :=
  laidMetH_of_parts3 (fuel := 80) (laidMet_of_run' 80 (by kernel_rfl) (by kernel_rfl)) (by kernel_rfl) (by kernel_rfl)
theorem door_ref (os : Os) (args : Array Value) : ((World.doorLaid Tryd.prog 4000 os).forCall (fun _ _ => 0) ⟨#[], args, []⟩).Shaped Tryd.prog := World.shaped_of_RefB (by kernel_rfl) (by kernel_rfl)
theorem door_os (os : Os) : (World.doorLaid Tryd.prog 4000 os).os = os := by kernel_rfl
end Go.Proofs.YthhkpghecekoeaaDoor
