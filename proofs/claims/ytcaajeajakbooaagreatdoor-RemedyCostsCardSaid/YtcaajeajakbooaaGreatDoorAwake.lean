/-
  The law's examples hold: awake returns true from every world, and old memory stays.
-/
import Derived.Test.YtcaajeajakbooaaGreatDoorOkT
import Derived.Test.YtcaajeajakbooaaGreatDoorNop
import Derived.Test.YtcaajeajakbooaaGreatDoorRunT
import Derived.Below
set_option linter.unusedVariables false
set_option linter.unusedSimpArgs false
namespace Go.Am
open Go Go.Proofs Go.RowKit

def H00 : AHeap := ⟨20, .nil, .nil⟩
theorem sim_empty {esz : TypeId → Nat} {heap : Array Obj} : Sim esz (fun _ => none) (fun g => gl0 g = true) H00 heap where
  obj := fun i o p _ h => by cases h
  disj := fun i j oi oj pi pj _ _ h => by cases h
  tip := fun i cs e g v p cs' e' v' q _ _ h => by cases h
  solo := fun i cs e g v h => by rw [show H00.objs.get i = none from Trie.get_nil i] at h; cases h
  gl := fun i cs e g v h => by rw [show H00.objs.get i = none from Trie.get_nil i] at h; cases h
  vle := fun i cs e g v h => by rw [show H00.objs.get i = none from Trie.get_nil i] at h; cases h
  bnd := fun i p h => by cases h
  lt := fun i p h => by cases h
  base := fun i cs e g v p _ h => by cases h
  grpφ := fun i cs e g v p _ h => by cases h
  fresh := fun i _ => ⟨Trie.get_nil i, Trie.get_nil i⟩
  glob := fun g h => by cases h

theorem mixed : Tryz.prog.follows .mixedOrders = true := by kernel_rfl
theorem np_ok (g : Nat) (h : np0 g = true) : NopF Tryz.prog g := by
  unfold np0 at h
  rw [beqN] at h
  subst h
  exact nop170
theorem call_ok (n : Nat) : CallOK (fun t => Tryz.prog.cellsOf t) (fun g => gl0 g = true) Tryz.prog (callK tab n) := callK_ok (fun _ => rfl) mixed np_ok tabOk n

theorem below_of {φ' : Phi} {N : Nat} {H' : AHeap} {w w' : World} (st : Step N (fun _ => none) H00 w φ' H' w') : Below w.heap.size w w' :=
  ⟨st.os, st.tape, st.output, st.size, fun k hk => (st.heap k hk fun ⟨_, _, _, _, _, h, _⟩ => by cases h).1⟩

theorem awake_calls (w : World) : Calls Tryz.prog 4 #[] w fun e w' => e = .returned (.bool true) ∧ Below w.heap.size w w' := by
  obtain ⟨_, h⟩ := call_ok 1000000 4 [] H00 _ _ (fun _ _ => rfl) t1
  refine (h (fun _ => none) 0 w #[] .nil sim_empty (Nat.zero_le _)).mono ?_
  intro e w' he
  cases e with
  | returned v' =>
    obtain ⟨v, φ', H', h1, _, h3, h4⟩ := he
    refine ⟨?_, below_of h3⟩
    cases v <;> simp only [isT] at h4 <;> first | (cases h4; done) | skip
    cases h1
    rw [h4]
  | panicked c => exact he.elim
  | outgrown => exact he.elim
#print axioms awake_calls
end Go.Am
