/-
  The reference's Price is a plain function, for every operation and text.
-/
import Derived.Test.YtcaajeajakbooaaGreatDoorProg
import Derived.WalkKit
import Derived.WalkSpells
import Derived.WalkLawsBesides
import Derived.Handy
set_option linter.unusedVariables false
set_option linter.unusedSimpArgs false
namespace Go.Proofs.YtcaajeajakbooaaGreatDoor
open Go.RowKit

def sText : List UInt8 := [116, 101, 120, 116]
def priceB (op : Int) (s : List UInt8) : Int :=
  if op = 6 ∧ (s = [116, 101, 120, 116] ∨ s = [107, 101, 121]) then 1
  else if op = 1 ∧ (s = [115, 99, 97, 108, 97, 114] ∨ s = [116, 97, 103] ∨ s = [111, 109, 97, 112] ∨ s = [114, 111, 111, 116] ∨ s = [114, 111, 119, 115]) then 2
  else if op = 2 ∧ (s = [116, 114, 101, 101] ∨ s = [103, 114, 97, 112, 104]) then 3
  else if op = 3 ∧ s = [115, 104, 97, 114, 105, 110, 103] then 4
  else if op = 4 ∧ s = [111, 114, 100, 101, 114] then 5
  else if op = 5 ∧ s = [100, 101, 99, 105, 109, 97, 108] then 6
  else 0
set_option maxHeartbeats 1000000 in
theorem price_6 (s : ByteArray) (w : World) :
    Calls Tryz.prog 13 #[.int .i64 6, .string s] w fun e w' => e = .returned (.int .i64 (priceB 6 s.toList)) ∧ w' = w := by
  go_enter Tryz.func13, Tryz.ntmps13
  go_wp2
  all_goals go_ret
  all_goals (refine ⟨congrArg (fun n => Ending.returned (Value.int .i64 n)) ?_, rfl⟩; simp_all [priceB])
set_option maxHeartbeats 1000000 in
theorem price_1 (s : ByteArray) (w : World) :
    Calls Tryz.prog 13 #[.int .i64 1, .string s] w fun e w' => e = .returned (.int .i64 (priceB 1 s.toList)) ∧ w' = w := by
  go_enter Tryz.func13, Tryz.ntmps13
  go_wp2
  all_goals go_ret
  all_goals (refine ⟨congrArg (fun n => Ending.returned (Value.int .i64 n)) ?_, rfl⟩; simp_all [priceB])
set_option maxHeartbeats 1000000 in
theorem price_2 (s : ByteArray) (w : World) :
    Calls Tryz.prog 13 #[.int .i64 2, .string s] w fun e w' => e = .returned (.int .i64 (priceB 2 s.toList)) ∧ w' = w := by
  go_enter Tryz.func13, Tryz.ntmps13
  go_wp2
  all_goals go_ret
  all_goals (refine ⟨congrArg (fun n => Ending.returned (Value.int .i64 n)) ?_, rfl⟩; simp_all [priceB])
set_option maxHeartbeats 1000000 in
theorem price_3 (s : ByteArray) (w : World) :
    Calls Tryz.prog 13 #[.int .i64 3, .string s] w fun e w' => e = .returned (.int .i64 (priceB 3 s.toList)) ∧ w' = w := by
  go_enter Tryz.func13, Tryz.ntmps13
  go_wp2
  all_goals go_ret
  all_goals (refine ⟨congrArg (fun n => Ending.returned (Value.int .i64 n)) ?_, rfl⟩; simp_all [priceB])
set_option maxHeartbeats 1000000 in
theorem price_4 (s : ByteArray) (w : World) :
    Calls Tryz.prog 13 #[.int .i64 4, .string s] w fun e w' => e = .returned (.int .i64 (priceB 4 s.toList)) ∧ w' = w := by
  go_enter Tryz.func13, Tryz.ntmps13
  go_wp2
  all_goals go_ret
  all_goals (refine ⟨congrArg (fun n => Ending.returned (Value.int .i64 n)) ?_, rfl⟩; simp_all [priceB])
set_option maxHeartbeats 1000000 in
theorem price_5 (s : ByteArray) (w : World) :
    Calls Tryz.prog 13 #[.int .i64 5, .string s] w fun e w' => e = .returned (.int .i64 (priceB 5 s.toList)) ∧ w' = w := by
  go_enter Tryz.func13, Tryz.ntmps13
  go_wp2
  all_goals go_ret
  all_goals (refine ⟨congrArg (fun n => Ending.returned (Value.int .i64 n)) ?_, rfl⟩; simp_all [priceB])
set_option maxHeartbeats 1000000 in
theorem price_o (op : Int) (s : ByteArray) (w : World) (h1 : op ≠ 1) (h2 : op ≠ 2) (h3 : op ≠ 3) (h4 : op ≠ 4) (h5 : op ≠ 5) (h6 : op ≠ 6) :
    Calls Tryz.prog 13 #[.int .i64 op, .string s] w fun e w' => e = .returned (.int .i64 (priceB op s.toList)) ∧ w' = w := by
  have e : priceB op s.toList = 0 := by simp [priceB, *]
  rw [e]
  go_enter Tryz.func13, Tryz.ntmps13
  go_wp2
  all_goals go_ret
  all_goals exact ⟨rfl, rfl⟩
theorem price_any (op : Int) (s : ByteArray) (w : World) :
    Calls Tryz.prog 13 #[.int .i64 op, .string s] w fun e w' => e = .returned (.int .i64 (priceB op s.toList)) ∧ w' = w := by
  by_cases h1 : op = 1
  · subst h1; exact price_1 s w
  by_cases h2 : op = 2
  · subst h2; exact price_2 s w
  by_cases h3 : op = 3
  · subst h3; exact price_3 s w
  by_cases h4 : op = 4
  · subst h4; exact price_4 s w
  by_cases h5 : op = 5
  · subst h5; exact price_5 s w
  by_cases h6 : op = 6
  · subst h6; exact price_6 s w
  exact price_o op s w h1 h2 h3 h4 h5 h6
end Go.Proofs.YtcaajeajakbooaaGreatDoor
