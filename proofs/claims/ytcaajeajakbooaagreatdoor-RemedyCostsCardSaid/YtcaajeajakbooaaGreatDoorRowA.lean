/-
  The law returns true at every argument that can be read.
-/
import Derived.Test.YtcaajeajakbooaaGreatDoorLawW
import Derived.Test.YtcaajeajakbooaaGreatDoorTie
import Derived.Test.YtcaajeajakbooaaGreatDoorCards
import Derived.ProofKit
import Derived.Lay
import Derived.LaidLaws
import Derived.LaidHandle
import Derived.Deep.Slices
import Derived.SevenTiedAt
set_option linter.unusedVariables false
set_option linter.unusedSimpArgs false
namespace Go.Proofs.YtcaajeajakbooaaGreatDoor
open Go.ChangeShapes Go.WideShapes Go.ChangeAt Go.RowKit

theorem own : ownKnob Tryz.prog.godebug = none := by kernel_rfl
theorem laidOut : laidOutB Tryz.prog = true := by kernel_rfl
theorem cells44 : Tryz.prog.cellsOf 44 = 4 := by kernel_rfl
theorem cells3 : Tryz.prog.cellsOf 3 = 1 := by kernel_rfl
theorem cells9 : Tryz.prog.cellsOf 9 = 1 := by kernel_rfl
theorem cells42 : Tryz.prog.cellsOf 42 = 1 := by kernel_rfl

set_option maxRecDepth 100000 in
theorem remedy_cells {H : Type} {enc : TypeId × Value → H} {w : World} {base : Nat} {sp : Nat → Bool} {held : Bool} {fuel : Nat} {cs : List Value} {x : DataW H × List MemPlace}
    (h : DataW.trod enc Tryz.prog w base sp held fuel 44 cs = some x) : ∃ op pa pl pc s c, cs = [.int .i64 op, .slice pa pl pc, .string s, .int .i64 c] := by
  obtain ⟨xs, n, rfl, rfl, hl, hx, hf⟩ := DataW.trod_struct Tryz.underlying44 h
  have hl' : cs.length = 4 := hl.trans cells44
  clear hl
  match cs, hl' with
  | [c0, c1, c2, c3], _ =>
    have f0 := hf 0 _ rfl
    have f1 := hf 1 _ rfl
    have f2 := hf 2 _ rfl
    have f3 := hf 3 _ rfl
    have hlen : xs.length = 4 := by rw [hx]; rfl
    have g0 : DataW.trod enc Tryz.prog w base sp held n 3 [c0] = xs[0]? := f0
    have g1 : DataW.trod enc Tryz.prog w base sp held n 42 [c1] = xs[1]? := f1
    have g2 : DataW.trod enc Tryz.prog w base sp held n 9 [c2] = xs[2]? := f2
    have g3 : DataW.trod enc Tryz.prog w base sp held n 3 [c3] = xs[3]? := f3
    rw [List.getElem?_eq_getElem (by omega)] at g0 g1 g2 g3
    obtain ⟨op, e0, _⟩ := DataW.trod_int Tryz.underlying3 g0
    obtain ⟨s, e2, _⟩ := DataW.trod_string Tryz.underlying9 g2
    obtain ⟨c, e3, _⟩ := DataW.trod_int Tryz.underlying3 g3
    have e1 : ∃ pa pl pc, c1 = .slice pa pl pc := by
      rcases DataW.trod_slice Tryz.underlying42 g1 with ⟨e, _⟩ | ⟨a, len, cap, _, _, _, _, e, _⟩
      · simp at e; exact ⟨_, _, _, e⟩
      · simp at e; exact ⟨_, _, _, e⟩
    obtain ⟨pa, pl, pc, rfl⟩ := e1
    simp at e0 e2 e3
    subst e0; subst e2; subst e3
    exact ⟨op, pa, pl, pc, s, c, rfl⟩


/-- the cells of a slice of remedies that was read -/
theorem open_row22 {H : Type} {enc : TypeId × Value → H} {w : World} {fuel : Nat} {b off len cap : Nat} {x : DataW H × List MemPlace}
    (h : DataW.trod enc Tryz.prog w 0 (fun _ => true) true fuel 22 [.slice (some ⟨b, off, none⟩) len cap] = some x) : ∃ op txt pa pl pc cc, RowR w b off len op txt pa pl pc cc := by
  rcases Go.Deep.open_slice Tryz.underlying22 h with ⟨e, _⟩ | ⟨a, l', c', m, n, D, Pl, e, _, hlc, _, hm, _, hel⟩
  · simp at e
  · simp at e
    obtain ⟨rfl, rfl, rfl⟩ := e
    have each : ∀ i, i < len → ∃ q : Int × Option Addr × Nat × Nat × ByteArray × Int, w.cell? ⟨b, off + i * 4, none⟩ = some (.int .i64 q.1) ∧ w.cell? ⟨b, off + i * 4 + 1, none⟩ = some (.slice q.2.1 q.2.2.1 q.2.2.2.1) ∧
        w.cell? ⟨b, off + i * 4 + 2, none⟩ = some (.string q.2.2.2.2.1) ∧ w.cell? ⟨b, off + i * 4 + 3, none⟩ = some (.int .i64 q.2.2.2.2.2) := by
      intro i hi
      obtain ⟨cs', h1, h2⟩ := hel i (by rw [hm]; simp; omega)
      obtain ⟨op, pa, pl, pc, s, c, rfl⟩ := remedy_cells h2
      obtain ⟨_, _, h3⟩ := World.cells?_some h1
      have ha : ∀ j, ((⟨b, off, none⟩ : Addr).add (i * Tryz.prog.cellsOf 44)).add j = ⟨b, off + i * 4 + j, none⟩ := by
        intro j
        rw [show Tryz.prog.cellsOf 44 = 4 from cells44]
        unfold Addr.add
        split <;> split <;> simp_all <;> omega
      have k0 := h3 0 (by rw [show Tryz.prog.cellsOf 44 = 4 from cells44]; omega)
      have k1 := h3 1 (by rw [show Tryz.prog.cellsOf 44 = 4 from cells44]; omega)
      have k2 := h3 2 (by rw [show Tryz.prog.cellsOf 44 = 4 from cells44]; omega)
      have k3 := h3 3 (by rw [show Tryz.prog.cellsOf 44 = 4 from cells44]; omega)
      rw [ha] at k0 k1 k2 k3
      exact ⟨(op, pa, pl, pc, s, c), k0, k1, k2, k3⟩
    obtain ⟨f, hf⟩ := Go.Deep.choose_lt each
    exact ⟨fun i => (f i).1, fun i => (f i).2.2.2.2.1, fun i => (f i).2.1, fun i => (f i).2.2.1, fun i => (f i).2.2.2.1, fun i => (f i).2.2.2.2.2, ⟨fun k hk => (hf k hk).1, fun k hk => (hf k hk).2.1, fun k hk => (hf k hk).2.2.1, fun k hk => (hf k hk).2.2.2⟩⟩

set_option maxRecDepth 100000 in
theorem law_any {H : Type} {enc : TypeId × Value → H} {W : World} {base : Nat} {v0 : Value} {x : Int} {d0 : DataW H} {p0 : List MemPlace} (hx0 : 0 ≤ x) (hx1 : x ≤ 255) (hv0 : Value.okWide Tryz.prog W .any base 22 v0)
    (h0 : DataW.Trod enc Tryz.prog W 0 (fun _ => true) true 22 v0 d0 p0) : Calls Tryz.prog 3 #[v0, .int .u8 x] W fun e w' => e = .returned (.bool true) ∧ Below W.heap.size W w' := by
  obtain ⟨fuel, hf⟩ := h0
  obtain ⟨a0, len, cap, rfl⟩ := okWide_slice Tryz.underlying22 hv0
  cases a0 with
  | none =>
    simp only [Value.okWide, Tryz.underlying22, Cell.okWide] at hv0
    have : len = 0 ∧ cap = 0 := by
      cases len <;> cases cap <;> simp_all [Cell.ok]
    obtain ⟨rfl, rfl⟩ := this
    exact law_nil x W hx0 (by omega)
  | some a =>
    obtain ⟨b, off, spot⟩ := a
    simp only [Value.okWide, Tryz.underlying22, Cell.okWide, Cell.ok, World.has] at hv0
    obtain ⟨hlc, hcm, _, hsp, row, cells, hsh, _⟩ := hv0
    subst hsp
    have hb : b < W.heap.size := by
      rcases Nat.lt_or_ge b W.heap.size with h | h
      · exact h
      · simp [World.shape?, Array.getElem?_eq_none h] at hsh
    obtain ⟨op, txt, pa, pl, pc, cc, hr⟩ := open_row22 hf
    have hmx : IntKind.i64.max = 9223372036854775807 := by decide
    exact law_row b off len cap op txt pa pl pc cc x W hr hb hlc (by omega) hx0 (by omega)

end Go.Proofs.YtcaajeajakbooaaGreatDoor
