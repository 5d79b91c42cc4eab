/-
  Single operations of the abstract machine are those of the model, part 4.
-/
import Derived.Test.YtcaajeajakbooaaGreatDoorAmOps3
set_option linter.unusedVariables false
set_option linter.unusedSimpArgs false
namespace Go.Am
open Go

section
variable {esz : TypeId → Nat} {φ : Phi} {P : Program} {w : World} {ρ : Operand → Value} {o : Oper}

theorem pure_un {op : UnOp} {vs : List AVal} {v : AVal} (hok : okK P o.op (.un op) = true) (hr : VRels esz φ vs ((argsOf o.op).map ρ)) (ha : actK (.un op) vs = .val v) : PureRes esz φ P ρ o v := by
  have ha' : aUn op vs = .val v := ha
  cases hop : o.op <;> rw [hop] at hok hr <;> first | (simp [okK] at hok; done) | skip
  rename_i op' t x
  have hop' : op = op' := by simpa [okK, eqUn] using hok
  subst hop'
  unfold aUn at ha'
  split at ha'
  · rename_i a
    obtain ⟨u, e, h⟩ := hr.inv1
    simp only [argsOf, List.map_cons, List.map_nil, List.cons.injEq, and_true] at e
    rw [← e] at h
    intro w
    cases hu : aun op a with
    | none => rw [hu] at ha'; cases ha'
    | some z =>
      rw [hu] at ha'; cases ha'
      unfold aun at hu
      split at hu
      · cases hu
        cases hx : ρ x <;> rw [hx] at h <;> first | (cases h; done) | skip
        cases h
        refine ⟨.int _ _, ?_, .int _ _⟩
        simp [execOp, hop, hx, Op.unary, Op.intArith]
      · cases hu
        cases hx : ρ x <;> rw [hx] at h <;> first | (cases h; done) | skip
        cases h
        refine ⟨.int _ _, ?_, .int _ _⟩
        simp [execOp, hop, hx, Op.unary, Op.intBits]
      · cases hu
        cases hx : ρ x <;> rw [hx] at h <;> first | (cases h; done) | skip
        cases h
        exact ⟨_, by simp [execOp, hop, hx, Op.unary], .bool _⟩
      · cases hu
  · cases ha'

theorem conv_desc {s d : TypeId} {x : Operand} {c : ConvK} (hop : o.op = .convert s d x) (hok : okK P o.op (.conv c) = true) : ∃ sd dd, P.underlying s = some sd ∧ P.underlying d = some dd := by
  rw [hop] at hok
  cases hs : P.underlying s with
  | none => simp [okK, hs] at hok
  | some sd =>
    cases hd : P.underlying d with
    | none => simp [okK, hs, hd] at hok
    | some dd => exact ⟨sd, dd, rfl, rfl⟩

theorem pure_conv {c : ConvK} {vs : List AVal} {v : AVal} (hok : okK P o.op (.conv c) = true) (hr : VRels esz φ vs ((argsOf o.op).map ρ)) (ha : actK (.conv c) vs = .val v) : PureRes esz φ P ρ o v := by
  have hok0 := hok
  cases hop : o.op <;> rw [hop] at hok hr <;> first | (simp [okK] at hok; done) | skip
  rename_i s d x
  obtain ⟨sd, dd, hs, hd⟩ := conv_desc hop hok0
  intro w
  simp only [okK, hs, hd] at hok
  cases c with
  | int k =>
    have ha' : cInt k vs = .val v := ha
    unfold cInt at ha'
    split at ha' <;> cases ha'
    obtain ⟨u, e, h⟩ := hr.inv1
    simp only [argsOf, List.map_cons, List.map_nil, List.cons.injEq, and_true] at e
    rw [← e] at h
    cases sd <;> first | (simp at hok; done) | skip
    cases dd <;> first | (simp at hok; done) | skip
    simp only [eqKind_iff] at hok
    subst hok
    cases hx : ρ x <;> rw [hx] at h <;> first | (cases h; done) | skip
    cases h
    rename_i n _
    exact ⟨.int k (k.wrap n), by simp [execOp, hop, hx, convert, run_underlying hs, run_underlying hd, Conv.intToInt], by rw [awrap_eq]; exact .int _ _⟩
  | same =>
    cases sd <;> first | (simp at hok; done) | skip
    cases dd <;> first | (simp at hok; done) | skip
    have ha' : cSame vs = .val v := ha
    unfold cSame at ha'
    split at ha' <;> cases ha'
    obtain ⟨u, e, h⟩ := hr.inv1
    simp only [argsOf, List.map_cons, List.map_nil, List.cons.injEq, and_true] at e
    rw [← e] at h
    cases hx : ρ x <;> rw [hx] at h <;> first | (cases h; done) | skip
    exact ⟨_, by simp [execOp, hop, hx, convert, run_underlying hs, run_underlying hd], h⟩
  | ptrUns n =>
    cases sd <;> first | (simp at hok; done) | skip
    cases dd <;> first | (simp at hok; done) | skip
    have ha' : cPtrUns n vs = .val v := ha
    unfold cPtrUns at ha'
    split at ha'
    · cases ha'
      obtain ⟨u, e, h⟩ := hr.inv1
      simp only [argsOf, List.map_cons, List.map_nil, List.cons.injEq, and_true] at e
      rw [← e] at h
      cases hx : ρ x <;> rw [hx] at h <;> first | (cases h; done) | skip
      cases h
      exact ⟨.pointer none, by simp [execOp, hop, hx, convert, run_underlying hs, run_underlying hd, Conv.unsafePointer], .nilptr⟩
    · by_cases hb : Nat.beq n 0 = true
      · rw [bif_true hb] at ha'; cases ha'
      · rw [bif_false (bool_false hb)] at ha'; cases ha'
    · cases ha'
  | unsPtr u n =>
    cases sd <;> first | (simp at hok; done) | skip
    cases dd <;> first | (simp at hok; done) | skip
    have ha' : cUnsPtr u n vs = .val v := ha
    unfold cUnsPtr at ha'
    split at ha'
    · cases ha'
      obtain ⟨u, e, h⟩ := hr.inv1
      simp only [argsOf, List.map_cons, List.map_nil, List.cons.injEq, and_true] at e
      rw [← e] at h
      cases hx : ρ x <;> rw [hx] at h <;> first | (cases h; done) | skip
      cases h
      exact ⟨.pointer none, by simp [execOp, hop, hx, convert, run_underlying hs, run_underlying hd, Conv.unsafePointer], .nilptr⟩
    · by_cases hb : Nat.beq n 0 = true
      · rw [bif_true hb] at ha'; cases ha'
      · rw [bif_false (bool_false hb)] at ha'; cases ha'
    · cases ha'
  | bytes e =>
    have ha' : cBytes e vs = .val v := ha
    unfold cBytes at ha'
    split at ha' <;> cases ha'
  | strOfBytes =>
    cases sd <;> first | (simp at hok; done) | skip
    cases dd <;> first | (simp at hok; done) | skip
    rename_i el
    cases hel : P.underlying el with
    | none => simp [hel] at hok
    | some de =>
      cases de <;> simp only [hel, Bool.false_eq_true] at hok
      rename_i kd
      have hkd : kd = .u8 := by cases kd <;> simp_all
      subst hkd
      have ha' : cStrOf vs = .val v := ha
      unfold cStrOf at ha'
      split at ha' <;> first | (cases ha'; done) | skip
      · cases ha'
        obtain ⟨u, e, h⟩ := hr.inv1
        simp only [argsOf, List.map_cons, List.map_nil, List.cons.injEq, and_true] at e
        rw [← e] at h
        cases hx : ρ x <;> rw [hx] at h <;> first | (cases h; done) | skip
        cases h
        exact ⟨.string .empty, by simp [execOp, hop, hx, convert, run_underlying hs, run_underlying hd, run_underlying hel, Conv.bytesToString], .str ByteArray.empty⟩
      · rename_i i o' n lo ez
        by_cases h0 : Nat.beq n 0 = true
        · rw [bif_true h0] at ha'; cases ha'
          rw [beqN] at h0; subst h0
          obtain ⟨u, e, h⟩ := hr.inv1
          simp only [argsOf, List.map_cons, List.map_nil, List.cons.injEq, and_true] at e
          rw [← e] at h
          cases hx : ρ x <;> rw [hx] at h <;> first | (cases h; done) | skip
          refine ⟨.string .empty, ?_, .str ByteArray.empty⟩
          cases h <;> simp [execOp, hop, hx, convert, run_underlying hs, run_underlying hd, run_underlying hel, Conv.bytesToString, loadCells, loadCellsFrom]
        · rw [bif_false (bool_false h0)] at ha'; cases ha'

/-! ### slices of slices, strings, arrays -/
theorem bnds_run {lo hi mx : Bool} {as : List AVal} {l h m : Option Nat} {us : List Value} {lx hx mxx : Option Operand} (hb : bnds lo hi mx as = some (l, h, m)) (hr : VRels esz φ as us)
    (e1 : lo = optB lx) (e2 : hi = optB hx) (e3 : mx = optB mxx) (hu : us = (lx.toList ++ (hx.toList ++ mxx.toList)).map ρ) :
    (lx.map ρ = l.map fun n => Value.int (match lx with | some x => (match ρ x with | .int k _ => k | _ => .i64) | none => .i64) (Int.ofNat n)) ∧
    (hx.map ρ = h.map fun n => Value.int (match hx with | some x => (match ρ x with | .int k _ => k | _ => .i64) | none => .i64) (Int.ofNat n)) ∧
    (mxx.map ρ = m.map fun n => Value.int (match mxx with | some x => (match ρ x with | .int k _ => k | _ => .i64) | none => .i64) (Int.ofNat n)) := by
  subst hu
  unfold bnds at hb
  split at hb <;> first | (cases hb; done) | skip
  all_goals cases hb
  all_goals (cases lx <;> cases hx <;> cases mxx <;> simp [optB] at e1 e2 e3)
  · simp
  · rename_i x
    obtain ⟨u, e, k⟩ := hr.inv1
    simp at e
    rw [← e] at k
    cases hx : ρ x <;> rw [hx] at k <;> first | (cases k; done) | skip
    cases k
    simp [hx]
  · rename_i x
    obtain ⟨u, e, k⟩ := hr.inv1
    simp at e
    rw [← e] at k
    cases hx : ρ x <;> rw [hx] at k <;> first | (cases k; done) | skip
    cases k
    simp [hx]
  · rename_i x y
    obtain ⟨u1, u2, e, k1, k2⟩ := hr.inv2
    simp at e
    obtain ⟨rfl, rfl⟩ := e
    cases hx : ρ x <;> rw [hx] at k1 <;> first | (cases k1; done) | skip
    cases k1
    cases hy : ρ y <;> rw [hy] at k2 <;> first | (cases k2; done) | skip
    cases k2
    simp [hx, hy]
  · rename_i x y
    obtain ⟨u1, u2, e, k1, k2⟩ := hr.inv2
    simp at e
    obtain ⟨rfl, rfl⟩ := e
    cases hx : ρ x <;> rw [hx] at k1 <;> first | (cases k1; done) | skip
    cases k1
    cases hy : ρ y <;> rw [hy] at k2 <;> first | (cases k2; done) | skip
    cases k2
    simp [hx, hy]
  · rename_i x y z
    obtain ⟨u1, u2, u3, e, k1, k2, k3⟩ := hr.inv3
    simp at e
    obtain ⟨rfl, rfl, rfl⟩ := e
    cases hx : ρ x <;> rw [hx] at k1 <;> first | (cases k1; done) | skip
    cases k1
    cases hy : ρ y <;> rw [hy] at k2 <;> first | (cases k2; done) | skip
    cases k2
    cases hz : ρ z <;> rw [hz] at k3 <;> first | (cases k3; done) | skip
    cases k3
    simp [hx, hy, hz]

theorem run_bound {k : IntKind} {n y : Nat} {c : BoundsCode} (h : n ≤ y) (w : World) : (Instr.sliceBound (.int k (n : Int)) y c).run P w = .ok n w := by
  have : (0 : Int) ≤ (n : Int) ∧ (n : Int) ≤ (y : Int) := by omega
  simp [Instr.sliceBound, asIntOf, h]

theorem run_bounds {isSlice : Bool} {len cap : Nat} {l h m : Option Nat} {k1 k2 k3 : IntKind} (c1 : dflt cap m ≤ cap) (c2 : dflt 0 l ≤ dflt len h) (c3 : dflt len h ≤ dflt cap m) (c4 : m.isSome = true → h.isSome = true) (w : World) :
    (Instr.sliceBounds isSlice len cap (l.map fun n : Nat => Value.int k1 n) (h.map fun n : Nat => Value.int k2 n) (m.map fun n : Nat => Value.int k3 n)).run P w =
      .ok (dflt 0 l, dflt len h, dflt cap m) w := by
  cases m with
  | none =>
    cases h with
    | none =>
      cases l with
      | none => simp [Instr.sliceBounds, dflt]
      | some l => simp only [dflt] at *; simp [Instr.sliceBounds, run_bound c2 w, dflt]
    | some h =>
      cases l with
      | none => simp only [dflt] at *; simp [Instr.sliceBounds, run_bound c3 w, dflt]
      | some l => simp only [dflt] at *; simp [Instr.sliceBounds, run_bound c3 w, run_bound c2 w, dflt]
  | some m =>
    cases h with
    | none => simp at c4
    | some h =>
      cases l with
      | none => simp only [dflt] at *; simp [Instr.sliceBounds, run_bound c1 w, run_bound c3 w, dflt]
      | some l => simp only [dflt] at *; simp [Instr.sliceBounds, run_bound c1 w, run_bound c3 w, run_bound c2 w, dflt]
end
end Go.Am
