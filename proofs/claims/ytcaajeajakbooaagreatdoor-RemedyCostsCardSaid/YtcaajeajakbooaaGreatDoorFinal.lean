/-
  The given card of RemedyCosts, proved. Conditions: the row's own, its listed variables tied to the program's text.
-/
import Derived.Test.YtcaajeajakbooaaGreatDoorRowB
import Derived.Test.YtcaajeajakbooaaGreatDoorCardF
set_option linter.unusedVariables false
set_option linter.unusedSimpArgs false
namespace Go.Proofs.YtcaajeajakbooaaGreatDoor
open Go

set_option maxRecDepth 100000 in
theorem card_holds : Rows.RemedyCostsCardSaid :=
  Claim7.holds_tied_plain_at .later [] [.data, .data, .data, .data, .sentinel, .sentinel, .pinned] true (true, "2c03351200d5103e144c84763df70f945443fd909f23e00c4932c40bfa4a09b0") true
    holds (fun _ h => by cases h) card_wf (fun _ h => by cases h) remedyCosts_row_tie rfl ⟨rfl, rfl⟩ card_main rfl
    (fun f fn hf hfn => by
      obtain rfl : f = 3 := Option.some.inj (card_named.symm.trans hf) |>.symm
      obtain rfl : fn = Tryz.f3 := (Option.some.inj (Tryz.func3.symm.trans hfn)).symm
      exact ⟨card_looks, fun j t ht => by
        rw [Tryz.params3] at ht
        have hm : t ∈ [22, 5] := by simpa using Array.mem_of_getElem? ht
        exact (show Tryz.prog.wantsStandIn t = false by simpa using List.all_eq_true.1 card_in t hm)⟩)
    card_goes
#print axioms card_holds
end Go.Proofs.YtcaajeajakbooaaGreatDoor
