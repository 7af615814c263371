/- The law's own function: its beginning. -/
import Derived.Test.YtmmmdpobealcdaaGreatDoorF1
import Derived.Test.YtmmmdpobealcdaaGreatDoorRows
import Derived.WalkKit
import Derived.ProofKit
import Derived.OpenShut
set_option linter.unusedVariables false
set_option linter.unusedSimpArgs false
namespace Go.Am
open Go Go.Proofs Go.RowKit

/-- A slice of bytes that came in: nil, or a row of cells. -/
def IsBytes (w : World) (a : Option Addr) (len cap : Nat) (zs : List Int) : Prop :=
  (a = none ∧ len = 0 ∧ cap = 0 ∧ zs = []) ∨
  ∃ x, a = some x ∧ len ≤ cap ∧ cap ≤ maxLen ∧ zs.length = cap ∧ (∀ i, i < zs.length → w.cell? (x.add i) = some (.int .u8 (zs.getD i 0))) ∧ ∀ n ∈ zs, (Lit.int .u8 n).wf = true

set_option maxHeartbeats 400000 in
theorem big_calls (a : Option Addr) (len cap : Nat) (w : World) :
    Calls Tryz.prog 4 #[.slice a len cap] w fun e w' => e = .returned (.bool (decide ((1048576 : Int) < len))) ∧ w' = w := by
  go_enter Tryz.func4, Tryz.ntmps4
  go_wp2
  go_ret
  exact ⟨rfl, rfl⟩

set_option maxHeartbeats 400000 in
theorem at_in (x : Addr) (len cap i : Nat) (z : Int) (w : World) (hi : i < len) (hlen : len ≤ 1048576) (hc : w.cell? (x.add i) = some (.int .u8 z)) (hz : 0 ≤ z ∧ z ≤ 255) :
    Calls Tryz.prog 5 #[.slice (some x) len cap, .int .i64 i] w fun e w' => e = .returned (.int .i64 z) ∧ w' = w := by
  go_enter Tryz.func5, Tryz.ntmps5
  go_wp2
  go_ret
  exact ⟨rfl, rfl⟩

set_option maxHeartbeats 400000 in
theorem at_out (a : Option Addr) (len cap i : Nat) (w : World) (hi : ¬ i < len) (hlen : len ≤ 1048576) (hi1 : i ≤ 1) :
    Calls Tryz.prog 5 #[.slice a len cap, .int .i64 i] w fun e w' => e = .returned (.int .i64 (((i : Int) * 31 + len * 7).tmod 256)) ∧ w' = w := by
  go_enter Tryz.func5, Tryz.ntmps5
  go_wp2
  go_ret
  exact ⟨rfl, rfl⟩

end Go.Am
