/-
  The closed facts of the given card of RemedyCosts, one by one (by the kernel).
-/
import Derived.Test.YtcaajeajakbooaaGreatDoorTie
import Derived.Test.YtcaajeajakbooaaGreatDoorCards
import Derived.KernelRfl
set_option linter.unusedVariables false
set_option linter.unusedSimpArgs false
namespace Go.Proofs.YtcaajeajakbooaaGreatDoor
open Go
set_option maxRecDepth 100000

theorem card_wf : Rows.remedyCostsRow.wfByText (OpenSpec.ofChange Rows.remedyCostsSpec) = true := by kernel_rfl
theorem card_main : Tryz.prog.mainIs = some (true, "2c03351200d5103e144c84763df70f945443fd909f23e00c4932c40bfa4a09b0".toList) := by kernel_rfl
theorem card_named : Tryz.prog.funcNamed "rosetta/rosettalaw45.RemedyCosts" = some 3 := by kernel_rfl
theorem card_looks : true = Tryz.prog.looks [] := by kernel_rfl
theorem card_in : ([22, 5].all fun u => !Tryz.prog.wantsStandIn u) = true := by kernel_rfl
theorem no_go : (Tryz.prog.funcs.toList.any Func.goes) = false := by kernel_rfl

theorem goes_none {P : Program} (h : (P.funcs.toList.any Func.goes) = false) (f : FuncId) : P.goes f = false := by
  have h1 : ∀ g : FuncId, ((P.funcs[g]?).any Func.goes) = false := by
    intro g
    cases hg : P.funcs[g]? with
    | none => rfl
    | some fn =>
      have hm : fn ∈ P.funcs.toList := by
        obtain ⟨hlt, he⟩ := Array.getElem?_eq_some_iff.1 hg
        rw [← he]
        exact Array.getElem_mem_toList hlt
      rw [List.any_eq_false] at h
      simpa using h fn hm
  have h2 : P.funcs.any Func.goes = false := by rw [← Array.any_toList]; exact h
  unfold Program.goes
  rw [h2]
  simp only [h1, Bool.and_false, Bool.or_false]
  exact List.any_eq_false.2 (fun _ _ => by simp)

theorem goes_any {P : Program} (h : (P.funcs.toList.any Func.goes) = false) (o : Option FuncId) : o.any P.goes = false := by
  cases o with
  | none => rfl
  | some f => exact goes_none h f

theorem goesBy_none {P : Program} {c : OpenClaim} (h : (P.funcs.toList.any Func.goes) = false) (hs : c.start = .entering) : false = c.goesBy P := by
  unfold OpenClaim.goesBy Program.goesAt Program.goesFrom
  rw [hs, goes_any h]
  rfl

theorem card_goes : false = Rows.remedyCostsRow.goesBy Tryz.prog := goesBy_none no_go rfl
end Go.Proofs.YtcaajeajakbooaaGreatDoor
