/-
  The abstract machine runs the chapter's examples to the end, and they hold (by the kernel).
-/
import Derived.Test.YtcaajeajakbooaaGreatDoorIrT
import Derived.KernelRfl
set_option linter.unusedVariables false
set_option linter.unusedSimpArgs false
namespace Go.Am
def isT (v : AVal) : Bool := match v with | .bool b => b | _ => false
theorem t1 : callK tab 1000000 4 [] ⟨20, .nil, .nil⟩ (fun v _ => isT v) (fun _ _ => false) = true := by kernel_rfl
end Go.Am
