/- The row's closed facts, one by one. -/
import Derived.Test.YtmmmdpobealcdaaGreatDoorRows
import Derived.JoinedOf
import Derived.KernelRfl
set_option linter.unusedVariables false
set_option linter.unusedSimpArgs false
namespace Go.Proofs.YtmmmdpobealcdaaGreatDoor.FnMatchedProof
open Go
set_option maxRecDepth 100000

theorem c_inPlace : (Rows.fnMatchedRow.inPlace == Tryz.pinned.checked.prog.inPlace 3) = true := by kernel_rfl
theorem c_unfollowed : (Rows.fnMatchedRow.unfollowed == Tryz.pinned.checked.prog.unfollowed 3) = true := by kernel_rfl
theorem c_recurses : (Rows.fnMatchedRow.recurses == Tryz.pinned.checked.prog.recurses 3) = true := by kernel_rfl
theorem c_named : (Rows.fnMatchedRow.named == Tryz.pinned.checked.prog.varsNamed 3) = true := by kernel_rfl

end Go.Proofs.YtmmmdpobealcdaaGreatDoor.FnMatchedProof
