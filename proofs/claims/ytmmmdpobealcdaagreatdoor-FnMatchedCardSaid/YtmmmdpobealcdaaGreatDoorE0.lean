/- How values are written in the contracts of the law's calls. -/
import Derived.Test.YtmmmdpobealcdaaGreatDoorD5
import Derived.KernelRfl
set_option linter.unusedVariables false
set_option linter.unusedSimpArgs false
namespace Go.Am
open Go Go.Proofs

def bt : AV := .v (.bool true)
def bf : AV := .v (.bool false)
def st (l : List UInt8) : AV := .v (.string ⟨⟨l⟩⟩)
def ip (n : Nat) : AV := .v (.int .i64 (.ofNat n))
def im (n : Nat) : AV := .v (.int .i64 (.negSucc n))
def ik (k : IntKind) (n : Int) : AV := .v (.int k n)
def ns : AV := .v (.slice none 0 0)
def np : AV := .v (.pointer none)
def nf : AV := .v .nilFunc
def ni : AV := .v .nilIface
def nm : AV := .v (.map none)
def li (s : Nat) (xs : List AV) : AV := .list s xs
def pr (xs : List AV) : AV := .pref xs
def ag (xs : List AV) : AV := .agg xs
def tu (xs : List AV) : AV := .tuple xs
def fn (g : Nat) : AV := .v (.func (.func g) #[] #[])
def cl (g : Nat) (xs : List AV) : AV := .clo g xs

noncomputable def kn0 : CallE := orE idxE colE
theorem kn0_ok : CallOk Tryz.prog kn0 := orE_ok idxE_ok colE_ok

/-- A line of the table, by running the function. -/
theorem line_of {tab : Tab1} (ht : TabOk Tryz.prog tab) {mask : Nat} (e : Nat × (List AV × AV)) (ha : allR (pureB 200) e.2.1 = true) (hr : pureB 200 e.2.2 = true)
    (h : pureRun GT (orE kn0 (tabE mask tab)) 1000 250 e.1 e.2.1 e.2.2 = true) : LineOk Tryz.prog e :=
  ⟨pure_of_run gtAny tryzNames (orE_ok kn0_ok (tabE_ok ht)) ha h, ha, hr⟩

end Go.Am
