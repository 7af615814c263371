/- The card's closed fact on goroutines. -/
import Derived.Test.YtmmmdpobealcdaaGreatDoorRows
import GoSem.ClaimSeven
import Derived.KernelRfl
set_option linter.unusedVariables false
set_option linter.unusedSimpArgs false
namespace Go.Proofs.YtmmmdpobealcdaaGreatDoor.FnMatchedProof
open Go

theorem goes_none : (Tryz.prog.funcs.toList.any Func.goes) = false := by kernel_rfl
theorem goes_name : Tryz.pinned.checked.prog.funcNamed Rows.fnMatchedRow.func = some 3 := by kernel_rfl

theorem goes_of {P : Program} {f : FuncId} (h : P.funcs.toList.any Func.goes = false) : P.goes f = false := by
  have hall := List.any_eq_false.1 h
  have h1 : ((P.closure f).any fun g => (P.funcs[g]?).any Func.goes) = false := List.any_eq_false.2 fun g _ => by
    cases hq : P.funcs[g]? with
    | none => simp
    | some fn => simpa using hall fn (Array.mem_toList_iff.2 (Array.mem_of_getElem? hq))
  have h2 : P.funcs.any Func.goes = false := by rw [← Array.any_toList]; exact h
  unfold Program.goes
  rw [h1, h2, Bool.and_false, Bool.or_false]

theorem c_goes : false = Rows.fnMatchedRow.goesBy Tryz.pinned.checked.prog := by
  unfold OpenClaim.goesBy Program.goesAt Program.goesFrom
  rw [goes_name]
  have h : Tryz.pinned.checked.prog.goes 3 = false := goes_of goes_none
  simp only [Option.any_some, h, Bool.false_or]
  rfl

end Go.Proofs.YtmmmdpobealcdaaGreatDoor.FnMatchedProof
