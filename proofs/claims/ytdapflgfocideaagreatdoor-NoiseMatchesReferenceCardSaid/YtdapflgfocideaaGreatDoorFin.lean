/- What the rows' lists give: the environment of every walk; a world for the witness. -/
import Derived.Test.YtdapflgfocideaaGreatDoorCards
import Derived.Test.YtdapflgfocideaaGreatDoorTie
import Derived.Test.YtdapflgfocideaaGreatDoorTotals
import Derived.ProofKit
import Derived.OpenShut
import Derived.LaidMore
import Derived.Deep.DeepHandedRow
import Derived.Deep.DeepWitnessRowRef
import Derived.Lib.LaidTab
import Derived.Stop.LaidErr
namespace Go.Proofs.YtdapflgfocideaaGreatDoor
open Go Go.ChangeShapes Go.WideShapes Go.ChangeAt Go.RowKit

theorem own : ownKnob Tryz.prog.godebug = none := by kernel_rfl
theorem gPow : Tryz.prog.globalNamed "internal/strconv.uint64pow10" = some 2 := by kernel_rfl
theorem tPow : (Tryz.prog.globals[2]?).map (·.type) = some 166 := by kernel_rfl
theorem u166 : Tryz.prog.underlying 166 = some (.array 20 79) := by kernel_rfl
theorem u79 : Tryz.prog.underlying 79 = some (.int .u64) := by kernel_rfl
theorem c79 : Tryz.prog.cellsOf 79 = 1 := by kernel_rfl
theorem c166 : Tryz.prog.cellsOf 166 = 20 := by kernel_rfl

theorem env_of_laid {W : World} (h : laidMetH Tryz.prog Rows.noiseTotalsRow.laid W) : Env W.heap.size W := by
  have h' : laidMet Tryz.prog Rows.noiseTotalsRow.laid W := h
  have h3 := h'.tail.tail
  exact ⟨Lib.tabBelow_of_tabIs (Lib.tabIs_of_head gPow tPow u166 u79 c79 c166 h3), Nat.le_refl _⟩

/-- A WORLD FOR THE WITNESS: what the door's own run leaves, and the pinned table. -/
noncomputable def laidWorld (os : Os) : World :=
  { World.doorLaid Tryz.prog 400 os with heap := (World.doorLaid Tryz.prog 400 os).heap.modify 3 fun
      | .cells _ t frozen => .cells (Go.Pinned.utf8FirstZ.map fun (z : Nat) => Value.int .u8 (z : Int)).toArray t frozen
      | o => o }
set_option maxRecDepth 100000 in
theorem laid_met (os : Os) (args : Array Value) : laidMet Tryz.prog Rows.noiseTotalsRow.laid ((laidWorld os).forCall (fun _ _ => 0) ⟨#[], args, []⟩).memory :=
  laidMet_of_run' 8 (by kernel_rfl) (by kernel_rfl)
end Go.Proofs.YtdapflgfocideaaGreatDoor
