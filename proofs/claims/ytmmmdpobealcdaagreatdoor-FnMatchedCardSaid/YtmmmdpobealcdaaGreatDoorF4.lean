/- The law at each of its eight texts. -/
import Derived.Test.YtmmmdpobealcdaaGreatDoorF3
import Derived.Test.YtmmmdpobealcdaaGreatDoorX00
import Derived.Test.YtmmmdpobealcdaaGreatDoorX01
import Derived.Test.YtmmmdpobealcdaaGreatDoorX10
import Derived.Test.YtmmmdpobealcdaaGreatDoorX11
import Derived.Test.YtmmmdpobealcdaaGreatDoorX20
import Derived.Test.YtmmmdpobealcdaaGreatDoorX21
import Derived.Test.YtmmmdpobealcdaaGreatDoorX30
import Derived.Test.YtmmmdpobealcdaaGreatDoorX31
set_option linter.unusedVariables false
set_option linter.unusedSimpArgs false
namespace Go.Am
open Go Go.Proofs Go.RowKit

/-- The machine at the law: the inputs of the calls are lists. -/
noncomputable def GL : Cfg := { P := Tryz.prog, hp := fun _ _ => true, lm := fun f d => match Nat.beq f 3 && (Nat.beq d 48 || Nat.beq d 57 || Nat.beq d 22 || Nat.beq d 23) with | true => .list | false => .heap }
theorem glAny : AnyOk GL := anyOk GL tryzMixed

noncomputable def restRun (n b : Nat) (tab : Tab1) : Option (AV × HE × Nat) :=
  (codeC GL 3 Tryz.f3.ntmps 1000 restC).run (callE GL (orE kn0 (tabE 192 tab)) 1000 250) (endE GL.P (resC GL.P Tryz.f3.results.toList).run) (fun _ _ _ _ _ => none) (endE GL.P (resC GL.P Tryz.f3.results.toList).run) (startT n b) [] [] 0

def tab00 : Tab1 := [x00_run1, x00_run2, x00_run3, x00_run4, x00_run5, x00_run6, x00_run7, x00_run8, x00_play1, x00_play2, x00_play3, x00_play4, x00_play5, x00_play6, x00_play7, x00_play8]
theorem tab00_ok : TabOk Tryz.prog tab00 := ⟨x00_run1_ok, ⟨x00_run2_ok, ⟨x00_run3_ok, ⟨x00_run4_ok, ⟨x00_run5_ok, ⟨x00_run6_ok, ⟨x00_run7_ok, ⟨x00_run8_ok, ⟨x00_play1_ok, ⟨x00_play2_ok, ⟨x00_play3_ok, ⟨x00_play4_ok, ⟨x00_play5_ok, ⟨x00_play6_ok, ⟨x00_play7_ok, ⟨x00_play8_ok, trivial⟩⟩⟩⟩⟩⟩⟩⟩⟩⟩⟩⟩⟩⟩⟩⟩
theorem law00 : isTrue (restRun 0 0 tab00) = true := by kernel_rfl
def tab01 : Tab1 := [x01_run1, x01_run2, x01_run3, x01_run4, x01_run5, x01_run6, x01_run7, x01_run8, x01_play1, x01_play2, x01_play3, x01_play4, x01_play5, x01_play6, x01_play7, x01_play8]
theorem tab01_ok : TabOk Tryz.prog tab01 := ⟨x01_run1_ok, ⟨x01_run2_ok, ⟨x01_run3_ok, ⟨x01_run4_ok, ⟨x01_run5_ok, ⟨x01_run6_ok, ⟨x01_run7_ok, ⟨x01_run8_ok, ⟨x01_play1_ok, ⟨x01_play2_ok, ⟨x01_play3_ok, ⟨x01_play4_ok, ⟨x01_play5_ok, ⟨x01_play6_ok, ⟨x01_play7_ok, ⟨x01_play8_ok, trivial⟩⟩⟩⟩⟩⟩⟩⟩⟩⟩⟩⟩⟩⟩⟩⟩
theorem law01 : isTrue (restRun 0 1 tab01) = true := by kernel_rfl
def tab10 : Tab1 := [x10_run1, x10_run2, x10_run3, x10_run4, x10_run5, x10_run6, x10_run7, x10_run8, x10_play1, x10_play2, x10_play3, x10_play4, x10_play5, x10_play6, x10_play7, x10_play8]
theorem tab10_ok : TabOk Tryz.prog tab10 := ⟨x10_run1_ok, ⟨x10_run2_ok, ⟨x10_run3_ok, ⟨x10_run4_ok, ⟨x10_run5_ok, ⟨x10_run6_ok, ⟨x10_run7_ok, ⟨x10_run8_ok, ⟨x10_play1_ok, ⟨x10_play2_ok, ⟨x10_play3_ok, ⟨x10_play4_ok, ⟨x10_play5_ok, ⟨x10_play6_ok, ⟨x10_play7_ok, ⟨x10_play8_ok, trivial⟩⟩⟩⟩⟩⟩⟩⟩⟩⟩⟩⟩⟩⟩⟩⟩
theorem law10 : isTrue (restRun 1 0 tab10) = true := by kernel_rfl
def tab11 : Tab1 := [x11_run1, x11_run2, x11_run3, x11_run4, x11_run5, x11_run6, x11_run7, x11_run8, x11_play1, x11_play2, x11_play3, x11_play4, x11_play5, x11_play6, x11_play7, x11_play8]
theorem tab11_ok : TabOk Tryz.prog tab11 := ⟨x11_run1_ok, ⟨x11_run2_ok, ⟨x11_run3_ok, ⟨x11_run4_ok, ⟨x11_run5_ok, ⟨x11_run6_ok, ⟨x11_run7_ok, ⟨x11_run8_ok, ⟨x11_play1_ok, ⟨x11_play2_ok, ⟨x11_play3_ok, ⟨x11_play4_ok, ⟨x11_play5_ok, ⟨x11_play6_ok, ⟨x11_play7_ok, ⟨x11_play8_ok, trivial⟩⟩⟩⟩⟩⟩⟩⟩⟩⟩⟩⟩⟩⟩⟩⟩
theorem law11 : isTrue (restRun 1 1 tab11) = true := by kernel_rfl
def tab20 : Tab1 := [x20_run1, x20_run2, x20_run3, x20_run4, x20_run5, x20_run6, x20_run7, x20_run8, x20_play1, x20_play2, x20_play3, x20_play4, x20_play5, x20_play6, x20_play7, x20_play8]
theorem tab20_ok : TabOk Tryz.prog tab20 := ⟨x20_run1_ok, ⟨x20_run2_ok, ⟨x20_run3_ok, ⟨x20_run4_ok, ⟨x20_run5_ok, ⟨x20_run6_ok, ⟨x20_run7_ok, ⟨x20_run8_ok, ⟨x20_play1_ok, ⟨x20_play2_ok, ⟨x20_play3_ok, ⟨x20_play4_ok, ⟨x20_play5_ok, ⟨x20_play6_ok, ⟨x20_play7_ok, ⟨x20_play8_ok, trivial⟩⟩⟩⟩⟩⟩⟩⟩⟩⟩⟩⟩⟩⟩⟩⟩
theorem law20 : isTrue (restRun 2 0 tab20) = true := by kernel_rfl
def tab21 : Tab1 := [x21_run1, x21_run2, x21_run3, x21_run4, x21_run5, x21_run6, x21_run7, x21_run8, x21_play1, x21_play2, x21_play3, x21_play4, x21_play5, x21_play6, x21_play7, x21_play8]
theorem tab21_ok : TabOk Tryz.prog tab21 := ⟨x21_run1_ok, ⟨x21_run2_ok, ⟨x21_run3_ok, ⟨x21_run4_ok, ⟨x21_run5_ok, ⟨x21_run6_ok, ⟨x21_run7_ok, ⟨x21_run8_ok, ⟨x21_play1_ok, ⟨x21_play2_ok, ⟨x21_play3_ok, ⟨x21_play4_ok, ⟨x21_play5_ok, ⟨x21_play6_ok, ⟨x21_play7_ok, ⟨x21_play8_ok, trivial⟩⟩⟩⟩⟩⟩⟩⟩⟩⟩⟩⟩⟩⟩⟩⟩
theorem law21 : isTrue (restRun 2 1 tab21) = true := by kernel_rfl
def tab30 : Tab1 := [x30_run1, x30_run2, x30_run3, x30_run4, x30_run5, x30_run6, x30_run7, x30_run8, x30_play1, x30_play2, x30_play3, x30_play4, x30_play5, x30_play6, x30_play7, x30_play8]
theorem tab30_ok : TabOk Tryz.prog tab30 := ⟨x30_run1_ok, ⟨x30_run2_ok, ⟨x30_run3_ok, ⟨x30_run4_ok, ⟨x30_run5_ok, ⟨x30_run6_ok, ⟨x30_run7_ok, ⟨x30_run8_ok, ⟨x30_play1_ok, ⟨x30_play2_ok, ⟨x30_play3_ok, ⟨x30_play4_ok, ⟨x30_play5_ok, ⟨x30_play6_ok, ⟨x30_play7_ok, ⟨x30_play8_ok, trivial⟩⟩⟩⟩⟩⟩⟩⟩⟩⟩⟩⟩⟩⟩⟩⟩
theorem law30 : isTrue (restRun 3 0 tab30) = true := by kernel_rfl
def tab31 : Tab1 := [x31_run1, x31_run2, x31_run3, x31_run4, x31_run5, x31_run6, x31_run7, x31_run8, x31_play1, x31_play2, x31_play3, x31_play4, x31_play5, x31_play6, x31_play7, x31_play8]
theorem tab31_ok : TabOk Tryz.prog tab31 := ⟨x31_run1_ok, ⟨x31_run2_ok, ⟨x31_run3_ok, ⟨x31_run4_ok, ⟨x31_run5_ok, ⟨x31_run6_ok, ⟨x31_run7_ok, ⟨x31_run8_ok, ⟨x31_play1_ok, ⟨x31_play2_ok, ⟨x31_play3_ok, ⟨x31_play4_ok, ⟨x31_play5_ok, ⟨x31_play6_ok, ⟨x31_play7_ok, ⟨x31_play8_ok, trivial⟩⟩⟩⟩⟩⟩⟩⟩⟩⟩⟩⟩⟩⟩⟩⟩
theorem law31 : isTrue (restRun 3 1 tab31) = true := by kernel_rfl

theorem rest_at {n b : Nat} {tab : Tab1} (ht : TabOk Tryz.prog tab) (h : isTrue (restRun n b tab) = true) {a : Act} {w : World} (hx : ∀ i x, i < 512 → tget (startT n b) i = some x → ∃ y, a.tmps[i]? = some y ∧ x = .v y) (hd : a.defers = []) (hs : Tryz.f3.ntmps ≤ a.tmps.size) :
    restC.wp Tryz.prog (bodyPost Tryz.prog Tryz.f3 fun e w' => e = .returned (.bool true) ∧ Below w.heap.size w w') a w :=
  rest_wp glAny (callE_ok glAny tryzNames (orE_ok kn0_ok (tabE_ok ht)) 1000 250) hx hd hs h

/-- THE LAW RETURNS TRUE, whatever bytes come in; nothing that was there has turned. -/
theorem law_calls {a : Option Addr} {len cap : Nat} {zs : List Int} {w : World} (hin : IsBytes w a len cap zs) :
    Calls Tryz.prog 3 #[.slice a len cap] w fun e w' => e = .returned (.bool true) ∧ Below w.heap.size w w' := by
  refine law_wp hin fun n b hn hb a' hx hd hs => ?_
  match n, b, hn, hb with
  | 0, 0, _, _ => exact rest_at tab00_ok law00 hx hd hs
  | 0, 1, _, _ => exact rest_at tab01_ok law01 hx hd hs
  | 1, 0, _, _ => exact rest_at tab10_ok law10 hx hd hs
  | 1, 1, _, _ => exact rest_at tab11_ok law11 hx hd hs
  | 2, 0, _, _ => exact rest_at tab20_ok law20 hx hd hs
  | 2, 1, _, _ => exact rest_at tab21_ok law21 hx hd hs
  | 3, 0, _, _ => exact rest_at tab30_ok law30 hx hd hs
  | 3, 1, _, _ => exact rest_at tab31_ok law31 hx hd hs
  | n + 4, _, hn, _ => omega
  | 0, b + 2, _, hb => omega
  | 1, b + 2, _, hb => omega
  | 2, b + 2, _, hb => omega
  | 3, b + 2, _, hb => omega

end Go.Am
