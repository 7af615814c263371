/- THE CARD OF 'FnMatched': the law returns true for every slice of bytes, and the slice reads as it did; the listed package-level variables tied to the program's text. -/
import Derived.Test.YtmmmdpobealcdaaGreatDoorG4
import Derived.Test.YtmmmdpobealcdaaGreatDoorG1
import Derived.Test.YtmmmdpobealcdaaGreatDoorG2
import Derived.Test.YtmmmdpobealcdaaGreatDoorTie
import Derived.Test.YtmmmdpobealcdaaGreatDoorCards
import Derived.SevenTiedAt
set_option linter.unusedVariables false
set_option linter.unusedSimpArgs false
namespace Go.Proofs.YtmmmdpobealcdaaGreatDoor
open Go
set_option maxRecDepth 100000

theorem fnMatched_row_holds : Rows.FnMatchedSaid :=
  OpenClaim.holds_of_wide 3 Tryz.f3 rfl rfl rfl rfl rfl rfl rfl ⟨rfl, rfl, rfl, rfl, rfl⟩ rfl rfl rfl rfl rfl (by kernel_rfl) Tryz.func3 FnMatchedProof.closed
    (of_decide_eq_true (by kernel_rfl)) (by unfold Func.isWrapper; rw [if_neg (of_decide_eq_false (by kernel_rfl))]; exact ⟨rfl, rfl⟩)
    (fun os started H enc _ => FnMatchedProof.lifted os started H enc)

theorem fnMatched_card_holds : Rows.FnMatchedCardSaid :=
  Claim7.holds_tied_plain_at .later [] [.data, .data, .data, .sentinel, .sentinel] true (true, "696c84d87aa895b9e7bddc1a1450bc6b608b75480e7004ab1e57581791bed140") true
    fnMatched_row_holds (fun _ h => by cases h) (by kernel_rfl) (fun _ h => by cases h) fnMatched_row_tie rfl ⟨rfl, rfl⟩ (by kernel_rfl) rfl
    (fun f fn hf hfn => by
      obtain rfl : f = 3 := Option.some.inj ((show Tryz.prog.funcNamed "loop.example/g00080/laws.FnMatched" = some 3 by kernel_rfl).symm.trans hf) |>.symm
      obtain rfl : fn = Tryz.f3 := (Option.some.inj (Tryz.func3.symm.trans hfn)).symm
      exact ⟨by kernel_rfl, fun j t ht => by
        rw [Tryz.params3] at ht
        have hm : t ∈ [22] := by simpa using Array.mem_of_getElem? ht
        have hall : ([22].all fun u => !Tryz.prog.wantsStandIn u) = true := by kernel_rfl
        exact (show Tryz.prog.wantsStandIn t = false by simpa using List.all_eq_true.1 hall t hm)⟩)
    FnMatchedProof.c_goes
#print axioms fnMatched_card_holds
end Go.Proofs.YtmmmdpobealcdaaGreatDoor
