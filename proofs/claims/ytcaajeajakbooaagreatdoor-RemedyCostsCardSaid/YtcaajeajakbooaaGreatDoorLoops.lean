/-
  Both Costs are sums of prices, for every slice of at most 40 remedies.
-/
import Derived.Test.YtcaajeajakbooaaGreatDoorPrice
import Derived.Test.YtcaajeajakbooaaGreatDoorCost
import Derived.LoopTactic
import Derived.RegionCalls
import Derived.Deep.QuietTactic
import Derived.BigQuiet
set_option linter.unusedVariables false
set_option linter.unusedSimpArgs false
namespace Go.Proofs.YtcaajeajakbooaaGreatDoor
open Go.RowKit

/-- the sum of the prices of the first k -/
def sumB (f : Nat → Int) : Nat → Int
  | 0 => 0
  | k + 1 => sumB f k + f k

theorem priceB_le (op : Int) (s : List UInt8) : 0 ≤ priceB op s ∧ priceB op s ≤ 6 := by
  unfold priceB
  repeat' split
  all_goals omega
theorem sumB_le (f : Nat → Int) (h : ∀ k, 0 ≤ f k ∧ f k ≤ 6) : ∀ k : Nat, 0 ≤ sumB f k ∧ sumB f k ≤ 6 * (k : Int)
  | 0 => by simp [sumB]
  | k + 1 => by
    have h1 := sumB_le f h k
    have h2 := h k
    simp only [sumB]
    omega

structure RowR (w : World) (b off n : Nat) (op : Nat → Int) (txt : Nat → ByteArray) (pa : Nat → Option Addr) (pl pc : Nat → Nat) (cc : Nat → Int) : Prop where
  c0 : ∀ k, k < n → w.cell? ⟨b, off + k * 4, none⟩ = some (.int .i64 (op k))
  c1 : ∀ k, k < n → w.cell? ⟨b, off + k * 4 + 1, none⟩ = some (.slice (pa k) (pl k) (pc k))
  c2 : ∀ k, k < n → w.cell? ⟨b, off + k * 4 + 2, none⟩ = some (.string (txt k))
  c3 : ∀ k, k < n → w.cell? ⟨b, off + k * 4 + 3, none⟩ = some (.int .i64 (cc k))

set_option maxHeartbeats 1000000 in
theorem refcost (b off n cap : Nat) (op : Nat → Int) (txt : Nat → ByteArray) (pa : Nat → Option Addr) (pl pc : Nat → Nat) (cc : Nat → Int) (w : World) (hn : n ≤ 40) (hr : RowR w b off n op txt pa pl pc cc) (hb : b < w.heap.size) :
    Calls Tryz.prog 6 #[.slice (some ⟨b, off, none⟩) n cap] w fun e w' => e = .returned (.int .i64 (sumB (fun k => priceB (op k) (txt k).toList) n)) ∧ Below w.heap.size w w' := by
  go_enter Tryz.func6, Tryz.ntmps6
  go_wp2_with fail
  go_loopw [3, 4] (fun s i wr => ∃ k : Nat, k ≤ n ∧ i = .int .i64 k ∧ s = .int .i64 (sumB (fun k => priceB (op k) (txt k).toList) k) ∧ Below w.heap.size w wr) (fun _ i _ => n - (intOf i).toNat)
  case atStart => exact ⟨0, Nat.zero_le _, rfl, rfl, Below.refl _ _⟩
  case round =>
    obtain ⟨k, hk, rfl, rfl, hbel⟩ := hrel
    have h0 : k < n → wr.cell? ⟨b, off + k * 4, none⟩ = some (.int .i64 (op k)) := fun h => (hbel.cell hb).trans (hr.c0 k h)
    have h2 : k < n → wr.cell? ⟨b, off + k * 4 + 2, none⟩ = some (.string (txt k)) := fun h => (hbel.cell hb).trans (hr.c2 k h)
    have hS := sumB_le (fun k => priceB (op k) (txt k).toList) (fun k => priceB_le _ _) k
    have hP := priceB_le (op k) (txt k).toList
    have hsucc : sumB (fun k => priceB (op k) (txt k).toList) (k + 1) = sumB (fun k => priceB (op k) (txt k).toList) k + priceB (op k) (txt k).toList := rfl
    generalize hSS : sumB (fun k => priceB (op k) (txt k).toList) k = S at *
    generalize hPP : priceB (op k) (txt k).toList = pr at *
    go_wp2_with fail
    · rename_i hlt
      have hlt' : k < n := by assumption
      have h0' := h0 hlt'
      have h2' := h2 hlt'
      go_quiet ((go_at_call 13; refine Calls.quiet_of_same (price_any _ _ _)))
      go_wp2
      exact ⟨⟨k + 1, by omega, rfl, by rw [hsucc], ⟨hbel.os, hbel.tape, hbel.output, hbel.size, hbel.block⟩⟩, by simp [intOf]; omega⟩
    · have hge : k = n := by omega
      subst hge
      go_ret
      exact ⟨by rw [hSS]; rfl, hbel⟩

theorem refcost_nil (w : World) : Calls Tryz.prog 6 #[.slice none 0 0] w fun e w' => e = .returned (.int .i64 0) ∧ Below w.heap.size w w' := by
  go_enter Tryz.func6, Tryz.ntmps6
  go_wp2_with fail
  go_loopw [3, 4] (fun s i wr => i = .int .i64 0 ∧ s = .int .i64 0 ∧ Below w.heap.size w wr) (fun _ i _ => 0 - (intOf i).toNat)
  case atStart => exact ⟨rfl, rfl, Below.refl _ _⟩
  case round =>
    obtain ⟨rfl, rfl, hbel⟩ := hrel
    go_wp2_with fail
    go_ret
    exact ⟨rfl, hbel⟩

set_option maxHeartbeats 1000000 in
theorem cost_row (b off n cap : Nat) (op : Nat → Int) (txt : Nat → ByteArray) (pa : Nat → Option Addr) (pl pc : Nat → Nat) (cc : Nat → Int) (w : World) (hn : n ≤ 40) (hr : RowR w b off n op txt pa pl pc cc) (hb : b < w.heap.size) :
    Calls Tryz.prog 5 #[.slice (some ⟨b, off, none⟩) n cap] w fun e w' => e = .returned (.int .i64 (sumB (fun k => priceB (op k) (txt k).toList) n)) ∧ Below w.heap.size w w' := by
  go_enter Tryz.func5, Tryz.ntmps5
  go_wp2_with fail
  go_loopw [3, 8] (fun s i wr => ∃ k : Nat, k ≤ n ∧ i = .int .i64 k ∧ s = .int .i64 (sumB (fun k => priceB (op k) (txt k).toList) k) ∧ Below w.heap.size w wr) (fun _ i _ => n - (intOf i).toNat)
  case atStart => exact ⟨0, Nat.zero_le _, rfl, rfl, Below.refl _ _⟩
  case round =>
    obtain ⟨k, hk, rfl, rfl, hbel⟩ := hrel
    have h0 : k < n → wr.cell? ⟨b, off + k * 4, none⟩ = some (.int .i64 (op k)) := fun h => (hbel.cell hb).trans (hr.c0 k h)
    have h1 : k < n → wr.cell? ⟨b, off + k * 4 + 1, none⟩ = some (.slice (pa k) (pl k) (pc k)) := fun h => (hbel.cell hb).trans (hr.c1 k h)
    have h2 : k < n → wr.cell? ⟨b, off + k * 4 + 2, none⟩ = some (.string (txt k)) := fun h => (hbel.cell hb).trans (hr.c2 k h)
    have h3 : k < n → wr.cell? ⟨b, off + k * 4 + 3, none⟩ = some (.int .i64 (cc k)) := fun h => (hbel.cell hb).trans (hr.c3 k h)
    have hS := sumB_le (fun k => priceB (op k) (txt k).toList) (fun k => priceB_le _ _) k
    have hP := priceB_le (op k) (txt k).toList
    have hsucc : sumB (fun k => priceB (op k) (txt k).toList) (k + 1) = sumB (fun k => priceB (op k) (txt k).toList) k + priceB (op k) (txt k).toList := rfl
    generalize hSS : sumB (fun k => priceB (op k) (txt k).toList) k = S at *
    generalize hPP : priceB (op k) (txt k).toList = pr at *
    go_wp2_with fail
    · have hlt' : k < n := by assumption
      have h0' := h0 hlt'
      go_at_call 12
      refine (Go.Am.cost_calls _ _ _).mono fun e w1 ⟨he, hb1⟩ => ?_
      subst he
      go_wp2
      have hB : Below w.heap.size w w1 := (hbel.alloc hbel.size _).trans (hb1.mono (by have := hbel.size; simp; omega))
      exact ⟨⟨k + 1, by omega, rfl, by rw [hsucc], hB⟩, by simp [intOf]; omega⟩
    · have hge : k = n := by omega
      subst hge
      go_ret
      exact ⟨by rw [hSS]; rfl, hbel⟩

theorem cost_nil (w : World) : Calls Tryz.prog 5 #[.slice none 0 0] w fun e w' => e = .returned (.int .i64 0) ∧ Below w.heap.size w w' := by
  go_enter Tryz.func5, Tryz.ntmps5
  go_wp2_with fail
  go_loopw [3, 8] (fun s i wr => i = .int .i64 0 ∧ s = .int .i64 0 ∧ Below w.heap.size w wr) (fun _ i _ => 0 - (intOf i).toNat)
  case atStart => exact ⟨rfl, rfl, Below.refl _ _⟩
  case round =>
    obtain ⟨rfl, rfl, hbel⟩ := hrel
    go_wp2_with fail
    go_ret
    exact ⟨rfl, hbel⟩
end Go.Proofs.YtcaajeajakbooaaGreatDoor
