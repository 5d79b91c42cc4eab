/-
  What it is that a function of the abstract machine is the program's.
-/
import Derived.Test.YtcaajeajakbooaaGreatDoorAmCode
import Derived.Test.YtcaajeajakbooaaGreatDoorProg
set_option linter.unusedVariables false
set_option linter.unusedSimpArgs false
namespace Go.Am
def gl0 (_ : Nat) : Bool := false
def np0 (g : Nat) : Bool := Nat.beq g 170
def OkF (n : Nat) (fn : Fn) : Prop := ∃ func, Go.Proofs.Tryz.prog.funcs[n]? = some func ∧ fnIs Go.Proofs.Tryz.prog gl0 np0 fn func = true
end Go.Am
