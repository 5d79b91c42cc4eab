/-
  Single operations of the abstract machine are those of the model, part 10.
-/
import Derived.Test.YtcaajeajakbooaaGreatDoorAmOps9
import Derived.Lib.UnsafeStr
set_option linter.unusedVariables false
set_option linter.unusedSimpArgs false
namespace Go.Am
open Go

section
variable {esz : TypeId → Nat} {φ : Phi} {P : Program} {w : World} {ρ : Operand → Value} {o : Oper} {G : Nat → Prop} {H : AHeap}

/-- what an operation that reads comes to -/
def RdRes (esz : TypeId → Nat) (φ : Phi) (P : Program) (ρ : Operand → Value) (o : Oper) (w : World) (v : AVal) : Prop :=
  ∃ v', (execOp ρ o).run P w = .ok (.value v') w ∧ VRel esz φ v v'

theorem rd_load1 {vs : List AVal} {v : AVal} {f : AHeap → Option AVal} (hok : okK P o.op .load1 = true) (hr : VRels esz φ vs ((argsOf o.op).map ρ)) (ha : actK .load1 vs = .rd f) (hf : f H = some v) (S : Sim esz φ G H w.heap) :
    RdRes esz φ P ρ o w v := by
  have ha' : aLoad1 vs = .rd f := ha
  cases hop : o.op <;> rw [hop] at hok hr <;> first | (simp [okK] at hok; done) | skip
  rename_i t x
  unfold aLoad1 at ha'
  split at ha' <;> cases ha'
  rename_i i off
  obtain ⟨u, e, h⟩ := hr.inv1
  simp only [argsOf, List.map_cons, List.map_nil, List.cons.injEq, and_true] at e
  rw [← e] at h
  cases hx : ρ x <;> rw [hx] at h <;> first | (cases h; done) | skip
  cases h with
  | ptr _ hp =>
  obtain ⟨v', hc, hv⟩ := S.cell hf hp
  refine ⟨v', ?_, hv⟩
  simp only [okK, partIs] at hok
  cases hd : P.underlying t with
  | none => simp [hd] at hok
  | some d =>
    cases d <;> first | (simp [hd] at hok; done) | simp [execOp, hop, hx, Instr.loadAt, Instr.sureAddr, loadVar, isAgg, run_underlying hd, hc]

theorem rd_loadN {n : Nat} {vs : List AVal} {v : AVal} {f : AHeap → Option AVal} (hok : okK P o.op (.loadN n) = true) (hr : VRels esz φ vs ((argsOf o.op).map ρ)) (ha : actK (.loadN n) vs = .rd f) (hf : f H = some v)
    (S : Sim esz φ G H w.heap) : RdRes esz φ P ρ o w v := by
  have ha' : aLoadN n vs = .rd f := ha
  cases hop : o.op <;> rw [hop] at hok hr <;> first | (simp [okK] at hok; done) | skip
  rename_i t x
  unfold aLoadN at ha'
  split at ha' <;> cases ha'
  rename_i i off
  obtain ⟨u, e, h⟩ := hr.inv1
  simp only [argsOf, List.map_cons, List.map_nil, List.cons.injEq, and_true] at e
  rw [← e] at h
  cases hx : ρ x <;> rw [hx] at h <;> first | (cases h; done) | skip
  cases h with
  | ptr _ hp =>
  unfold rLoadN at hf
  cases hc : H.cellsAt i off n with
  | none => rw [hc] at hf; cases hf
  | some cs =>
    rw [hc] at hf; cases hf
    obtain ⟨us, h1, h2⟩ := S.loadCells (P := P) hc hp
    refine ⟨.agg us.toArray, ?_, .agg (by simpa using h2)⟩
    simp only [okK, partIs, Bool.and_eq_true, Bool.not_eq_true'] at hok
    obtain ⟨h0, hok⟩ := hok
    cases hd : P.underlying t with
    | none => simp [hd] at hok
    | some d =>
      have hz : n ≠ 0 := by intro e; subst e; simp at h0
      cases d <;> first | (simp [hd, hz] at hok; done) | skip
      all_goals
        simp only [hd, Bool.and_eq_true] at hok
        obtain ⟨_, _, _, _, hs⟩ := sizeIs_some hok.1
        simp [execOp, hop, hx, Instr.loadAt, Instr.sureAddr, loadVar, isAgg, run_underlying hd, hs, h1]

theorem mrel_weak {es : List (AVal × AVal × Nat)} {clock : Nat} {pm : Bool} {es' : Array MapEntry} {clock' : Nat} (h : MRel esz φ es clock pm es' clock') : ∃ l : List MapEntry, l.Perm es'.toList ∧ All2 (ERel esz φ) es l := by
  cases pm with
  | false => exact ⟨es'.toList, List.Perm.refl _, h.2.imp fun _ _ e => e.toERel⟩
  | true => obtain ⟨l, h1, h2, _⟩ := h; exact ⟨l, h1, h2⟩

theorem rd_lenM {vs : List AVal} {v : AVal} {f : AHeap → Option AVal} (hok : okK P o.op .lenM = true) (hr : VRels esz φ vs ((argsOf o.op).map ρ)) (ha : actK .lenM vs = .rd f) (hf : f H = some v) (S : Sim esz φ G H w.heap) :
    RdRes esz φ P ρ o w v := by
  have ha' : aLenM vs = .rd f := ha
  cases hop : o.op <;> rw [hop] at hok hr <;> first | (simp [okK] at hok; done) | skip
  rename_i c
  cases hc : c.callee <;> simp only [okK, hc] at hok <;> first | (cases hok; done) | skip
  rename_i b
  cases b <;> simp only [Bool.false_eq_true] at hok
  simp only [Bool.and_eq_true] at hok
  obtain ⟨hd, h0⟩ := hok
  rw [args_builtin hc] at hr
  have e0 := arg0 h0
  generalize hT : c.argTypes.getD 0 0 = T at *
  unfold aLenM at ha'
  split at ha' <;> first | (cases ha'; done) | skip
  cases ha'
  rename_i i
  unfold rLenM at hf
  split at hf <;> cases hf
  rename_i es clock pm ho
  obtain ⟨u, e, h⟩ := hr.inv1
  cases h with
  | @map _ p hp =>
  obtain ⟨es', clock', h1, h2⟩ := S.obj i _ p ho hp trivial
  obtain ⟨l, l1, l2⟩ := mrel_weak h2
  have hl : es.length = es'.size := by rw [l2.length, l1.length_eq]; simp
  refine ⟨.int .i64 es.length, ?_, .int _ _⟩
  rw [call_builtin hop hc, args_eq e]
  cases hdd : P.underlying T with
  | none => simp [hdd] at hd
  | some d =>
    rw [hdd] at hd
    cases d <;> first | (simp at hd; done) | simp [builtin, Builtin.len_, e0, run_underlying hdd, MapKept.run_getObj_map h1, goInt, hl]
end
end Go.Am
