/- This program: what the machine needs to know of it; the place of a byte in a text. -/
import Derived.Test.YtmmmdpobealcdaaGreatDoorD2
import Derived.Test.YtmmmdpobealcdaaGreatDoorChecked
import Derived.WalkKit
set_option linter.unusedVariables false
set_option linter.unusedSimpArgs false
namespace Go.Am
open Go Go.Proofs Go.RowKit

theorem tryzMixed : Tryz.prog.follows .mixedOrders = true := by kernel_rfl

theorem tryzNames : ∀ (f : FuncId) (fn : Func), Tryz.prog.funcs[f]? = some fn → (fn.name == "runtime.NumGoroutine") = false := by
  have h : (Tryz.prog.funcs.toList.all fun fn => !(fn.name == "runtime.NumGoroutine")) = true := by kernel_rfl
  intro f fn hf
  have := List.all_eq_true.1 h fn (Array.mem_toList_iff.2 (Array.mem_of_getElem? hf))
  simpa using this

/-- The machine at this program: all blocks behind pointers. -/
noncomputable def GT : Cfg := { P := Tryz.prog, hp := fun _ _ => true, lm := fun _ _ => .heap }

theorem gtAny : AnyOk GT := anyOk GT tryzMixed

theorem call384 (s : ByteArray) (c : Int) (w : World) : (callFunc 384 #[.string s, .int .u8 c]).run Tryz.prog w = .ok (.value (.int .i64 (firstIdx s c.toNat.toUInt8))) w := by
  rw [run_callFunc_extern Tryz.func384 (by kernel_rfl) (by kernel_rfl) (by kernel_rfl) (e := Extern.BytealgIndexByte.indexByte) (by kernel_rfl), run_indexByte_string]
  rfl

set_option maxHeartbeats 400000 in
theorem idx_calls (s : ByteArray) (c : Int) (w : World) : Calls Tryz.prog 362 #[.string s, .int .u8 c] w fun e w' => e = .returned (.int .i64 (firstIdx s c.toNat.toUInt8)) ∧ w' = w := by
  have hc := call384 s c
  go_enter Tryz.func362, Tryz.ntmps362
  go_wp2
  go_ret
  exact ⟨rfl, rfl⟩

end Go.Am
