/-
  Single operations of the abstract machine are those of the model, part 1.
-/
import Derived.Test.YtcaajeajakbooaaGreatDoorAmObj
import Derived.Test.YtcaajeajakbooaaGreatDoorAmChk
import Derived.ChangeKeysEq
import Derived.Laws.Entries
set_option linter.unusedVariables false
set_option linter.unusedSimpArgs false
namespace Go.Am
open Go

section
variable {esz : TypeId → Nat} {φ : Phi} {P : Program} {w : World} {ρ : Operand → Value} {o : Oper}

theorem eqKind_iff {a b : IntKind} : eqKind a b = true ↔ a = b := by cases a <;> cases b <;> simp [eqKind]
theorem eqInt_iff {a b : Int} : eqInt a b = true ↔ a = b := by
  cases a with
  | ofNat a => cases b with
    | ofNat b => simp [eqInt]; omega
    | negSucc b => simp [eqInt]
  | negSucc a => cases b with
    | ofNat b => simp [eqInt]
    | negSucc b => simp [eqInt]
theorem eqBool_iff {a b : Bool} : eqBool a b = true ↔ a = b := by cases a <;> cases b <;> simp [eqBool]
theorem eqStr_iff {a b : List Nat} : eqStr a b = true ↔ a = b := by
  induction a generalizing b with
  | nil => cases b <;> simp [eqStr]
  | cons x a ih => cases b with
    | nil => simp [eqStr]
    | cons y b => simp [eqStr, ih]
theorem leInt_iff {a b : Int} : leInt a b = true ↔ a ≤ b := by
  cases a with
  | ofNat a => cases b with
    | ofNat b => simp [leInt]
    | negSucc b => simp [leInt]; omega
  | negSucc a => cases b with
    | ofNat b => simp [leInt]; omega
    | negSucc b => simp [leInt]; omega
theorem bytesN_iff {a : List UInt8} {b : List Nat} (h : bytesN a b = true) : a.map UInt8.toNat = b := by
  induction a generalizing b with
  | nil => cases b <;> simp_all [bytesN]
  | cons x a ih => cases b with
    | nil => simp [bytesN] at h
    | cons y b => simp [bytesN] at h; simp [h.1, ih h.2]

theorem crL_rel {f : AVal → Value → Bool} (hf : ∀ v u, f v u = true → VRel esz φ v u) : ∀ (l : List AVal) (m : List Value), crL f l m = true → VRels esz φ l m
  | [], [], _ => .nil
  | [], _ :: _, h => by simp [crL] at h
  | _ :: _, [], h => by simp [crL] at h
  | a :: l, b :: m, h => by
    simp only [crL, Bool.and_eq_true] at h
    exact .cons (hf a b h.1) (crL_rel hf l m h.2)
theorem cr_rel : ∀ (n : Nat) (v : AVal) (u : Value), cr n v u = true → VRel esz φ v u := by
  intro n
  induction n with
  | zero => intro v u h; simp [cr] at h
  | succ n ih =>
    intro v u h
    unfold cr at h
    split at h
    · exact .any _ h
    · rw [eqBool_iff] at h; subst h; exact .bool _
    · simp only [Bool.and_eq_true, eqKind_iff, eqInt_iff] at h; obtain ⟨rfl, rfl⟩ := h; exact .int _ _
    · rename_i l s
      have := bytesN_iff h
      subst this
      exact .str ⟨⟨s⟩⟩
    · exact .nilptr
    · exact .nilsl
    · exact .nilmap
    · rw [beqN] at h; subst h; exact .fn _ .nil .nil
    · exact .nilfn
    · exact .niliface
    · exact .agg (crL_rel ih _ _ h)
    · exact .tup (crL_rel ih _ _ h)
    · cases h

theorem zeroIs_some {t : TypeId} {z : List AVal} (h : zeroIs P t z = true) : ∃ v, (∀ w, (zeroValue t).run P w = .ok v w) ∧ VRels esz φ z v.cells.toList := by
  unfold zeroIs at h
  cases hi : P.info? t with
  | none => simp [hi] at h
  | some i =>
    cases hz : i.zero with
    | none => simp [hi, hz] at h
    | some v =>
      simp only [hi, hz] at h
      exact ⟨v, fun w => by simp [zeroValue, run_typeInfo w hi, hz], crL_rel (cr_rel 20) _ _ h⟩
theorem zeroVIs_some {t : TypeId} {z : AVal} (h : zeroVIs P t z = true) : ∃ v, (∀ w, (zeroValue t).run P w = .ok v w) ∧ VRel esz φ z v := by
  unfold zeroVIs at h
  cases hi : P.info? t with
  | none => simp [hi] at h
  | some i =>
    cases hz : i.zero with
    | none => simp [hi, hz] at h
    | some v =>
      simp only [hi, hz] at h
      exact ⟨v, fun w => by simp [zeroValue, run_typeInfo w hi, hz], cr_rel 20 _ _ h⟩
theorem sizeIs_some {t : TypeId} {n : Nat} (h : sizeIs P t n = true) : ∃ i, P.info? t = some i ∧ i.size = n ∧ P.cellsOf t = n ∧ ∀ w, (sizeOf t).run P w = .ok n w := by
  unfold sizeIs at h
  cases hi : P.info? t with
  | none => simp [hi] at h
  | some i =>
    simp only [hi, beqN] at h
    have hc : P.cellsOf t = n := by simp [Program.cellsOf, hi, h]
    exact ⟨i, rfl, h, hc, fun w => by rw [run_sizeOf w hi, hc]⟩

theorem VRels.inv1 {v : AVal} {l : List Value} (h : VRels esz φ [v] l) : ∃ u, l = [u] ∧ VRel esz φ v u := by
  cases h with | cons h t => cases t; exact ⟨_, rfl, h⟩
theorem VRels.inv2 {v1 v2 : AVal} {l : List Value} (h : VRels esz φ [v1, v2] l) : ∃ u1 u2, l = [u1, u2] ∧ VRel esz φ v1 u1 ∧ VRel esz φ v2 u2 := by
  cases h with | cons h t => obtain ⟨u, rfl, k⟩ := t.inv1; exact ⟨_, _, rfl, h, k⟩
theorem VRels.inv3 {v1 v2 v3 : AVal} {l : List Value} (h : VRels esz φ [v1, v2, v3] l) : ∃ u1 u2 u3, l = [u1, u2, u3] ∧ VRel esz φ v1 u1 ∧ VRel esz φ v2 u2 ∧ VRel esz φ v3 u3 := by
  cases h with | cons h t => obtain ⟨u, x, rfl, k, k'⟩ := t.inv2; exact ⟨_, _, _, rfl, h, k, k'⟩
theorem VRels.invNil {l : List Value} (h : VRels esz φ [] l) : l = [] := by cases h; rfl

/-- what a pure operation comes to -/
def PureRes (esz : TypeId → Nat) (φ : Phi) (P : Program) (ρ : Operand → Value) (o : Oper) (v : AVal) : Prop :=
  ∀ w, ∃ v', (execOp ρ o).run P w = .ok (.value v') w ∧ VRel esz φ v v'

theorem pure_mov {vs : List AVal} {v : AVal} (hok : okK P o.op .mov = true) (hr : VRels esz φ vs ((argsOf o.op).map ρ)) (ha : actK .mov vs = .val v) : PureRes esz φ P ρ o v := by
  have ha' : aMov vs = .val v := ha
  unfold aMov at ha'
  split at ha'
  · cases ha'
    cases hop : o.op <;> rw [hop] at hok hr <;> first | (simp [okK] at hok; done) | skip
    all_goals
      obtain ⟨u, e, h⟩ := hr.inv1
      simp only [argsOf, List.map_cons, List.map_nil, List.cons.injEq, and_true] at e
      intro w
      exact ⟨_, by simp only [execOp, hop]; rfl, by rw [e]; exact h⟩
  · cases ha'

theorem pure_pick {vs : List AVal} {v : AVal} (hok : okK P o.op .pick = true) (hr : VRels esz φ vs ((argsOf o.op).map ρ)) (ha : actK .pick vs = .val v) : PureRes esz φ P ρ o v := by
  have ha' : aPick vs = .val v := ha
  unfold aPick at ha'
  split at ha'
  · cases ha'
    cases hop : o.op <;> rw [hop] at hok hr <;> first | (simp [okK] at hok; done) | skip
    obtain ⟨u1, u2, u3, e, h1, h2, h3⟩ := hr.inv3
    simp only [argsOf, List.map_cons, List.map_nil, List.cons.injEq, and_true] at e
    obtain ⟨rfl, rfl, rfl⟩ := e
    intro w
    rename_i c a b ck ak bk
    cases hc : ρ ck <;> rw [hc] at h1 <;> first | (cases h1; done) | skip
    cases h1
    cases c
    · exact ⟨_, by simp [execOp, hop, hc, asBool], h3⟩
    · exact ⟨_, by simp [execOp, hop, hc, asBool], h2⟩
  · cases ha'

theorem pure_nilChk {vs : List AVal} {v : AVal} (hok : okK P o.op .nilChk = true) (hr : VRels esz φ vs ((argsOf o.op).map ρ)) (ha : actK .nilChk vs = .val v) : PureRes esz φ P ρ o v := by
  have ha' : aNilChk vs = .val v := ha
  cases hop : o.op <;> rw [hop] at hok hr <;> first | (simp [okK] at hok; done) | skip
  rename_i x
  unfold aNilChk at ha'
  split at ha'
  · cases ha'
    obtain ⟨u, e, h⟩ := hr.inv1
    simp only [argsOf, List.map_cons, List.map_nil, List.cons.injEq, and_true] at e
    intro w
    refine ⟨ρ x, ?_, by rw [e]; exact h⟩
    rw [← e] at h
    cases hx : ρ x <;> rw [hx] at h <;> first | (cases h; done) | skip
    cases h
    simp [execOp, hop, hx]
  · cases ha'
    obtain ⟨u, e, h⟩ := hr.inv1
    simp only [argsOf, List.map_cons, List.map_nil, List.cons.injEq, and_true] at e
    intro w
    refine ⟨ρ x, ?_, by rw [e]; exact h⟩
    rw [← e] at h
    cases hx : ρ x <;> rw [hx] at h <;> first | (cases h; done) | skip
    cases h
    simp [execOp, hop, hx]
  · cases ha'

theorem pure_ifc {t : TypeId} {vs : List AVal} {v : AVal} (hok : okK P o.op (.ifc t) = true) (hr : VRels esz φ vs ((argsOf o.op).map ρ)) (ha : actK (.ifc t) vs = .val v) : PureRes esz φ P ρ o v := by
  have ha' : aIfc t vs = .val v := ha
  cases hop : o.op <;> rw [hop] at hok hr <;> first | (simp [okK] at hok; done) | skip
  rename_i t' x
  unfold aIfc at ha'
  split at ha'
  · cases ha'
    obtain ⟨u, e, h⟩ := hr.inv1
    simp only [argsOf, List.map_cons, List.map_nil, List.cons.injEq, and_true] at e
    simp only [okK, Bool.and_eq_true, beqN] at hok
    obtain ⟨rfl, hu⟩ := hok
    intro w
    refine ⟨.iface t (ρ x), ?_, .iface t (by rw [e]; exact h)⟩
    cases hd : P.underlying t with
    | none => simp [hd] at hu
    | some d => cases d <;> first | (simp [hd] at hu; done) | simp [execOp, hop, Instr.makeInterface, run_underlying hd]
  · cases ha'

theorem pure_clos {f : FuncId} {n : Nat} {vs : List AVal} {v : AVal} (hok : okK P o.op (.clos f n) = true) (hr : VRels esz φ vs ((argsOf o.op).map ρ)) (ha : actK (.clos f n) vs = .val v) :
    PureRes esz φ P ρ o v := by
  have ha' : aClos f n vs = .val v := ha
  cases hop : o.op <;> rw [hop] at hok hr <;> first | (simp [okK] at hok; done) | skip
  rename_i fn a b
  cases fn <;> first | (simp [okK] at hok; done) | skip
  simp only [okK, Bool.and_eq_true, beqN] at hok
  obtain ⟨rfl, rfl⟩ := hok
  cases ha'
  simp only [argsOf, List.map_append] at hr
  intro w
  refine ⟨.func (.func f) (a.map ρ) (b.map ρ), by simp [execOp, hop, Instr.makeFunc], .fn f ?_ ?_⟩
  · have := hr.take a.size
    simpa using this
  · have := hr.drop a.size
    simpa using this

theorem pure_fadr {off : Nat} {vs : List AVal} {v : AVal} (hok : okK P o.op (.fadr off) = true) (hr : VRels esz φ vs ((argsOf o.op).map ρ)) (ha : actK (.fadr off) vs = .val v) :
    PureRes esz φ P ρ o v := by
  have ha' : aFadr off vs = .val v := ha
  cases hop : o.op <;> rw [hop] at hok hr <;> first | (simp [okK] at hok; done) | skip
  rename_i t x f
  unfold aFadr at ha'
  split at ha'
  · cases ha'
    obtain ⟨u, e, h⟩ := hr.inv1
    simp only [argsOf, List.map_cons, List.map_nil, List.cons.injEq, and_true] at e
    rw [← e] at h
    intro w
    simp only [okK] at hok
    cases hd : P.underlying t with
    | none => simp [hd] at hok
    | some d =>
      cases d <;> first | (simp [hd] at hok; done) | skip
      rename_i fs
      simp only [hd] at hok
      cases hf : fs[f]? with
      | none => simp [hf] at hok
      | some fl =>
        simp only [hf, Bool.and_eq_true, beqN] at hok
        obtain ⟨rfl, hs⟩ := hok
        cases hi : P.info? fl.type with
        | none => simp [hi] at hs
        | some i =>
          simp only [hi] at hs
          have hn : P.cellsOf fl.type ≠ 0 := by simp [Program.cellsOf, hi]; intro h0; rw [h0] at hs; simp at hs
          cases hx : ρ x <;> rw [hx] at h <;> first | (cases h; done) | skip
          cases h
          rename_i i' o' p hp
          refine ⟨.pointer (some ⟨p.blk, p.base + (o' + fl.offset), none⟩), ?_, .ptr _ hp⟩
          simp [execOp, hop, hx, Instr.fieldAt, run_underlying hd, hf, Instr.sureAddr, fieldPlace, run_sizeOf w hi, hn, addr_add, Nat.add_assoc]
  · cases ha'

theorem pure_ext {i : Nat} {vs : List AVal} {v : AVal} (hok : okK P o.op (.ext i) = true) (hr : VRels esz φ vs ((argsOf o.op).map ρ)) (ha : actK (.ext i) vs = .val v) :
    PureRes esz φ P ρ o v := by
  have ha' : aExt i vs = .val v := ha
  cases hop : o.op <;> rw [hop] at hok hr <;> first | (simp [okK] at hok; done) | skip
  rename_i x j
  unfold aExt at ha'
  split at ha'
  · rename_i l
    obtain ⟨u, e, h⟩ := hr.inv1
    simp only [argsOf, List.map_cons, List.map_nil, List.cons.injEq, and_true] at e
    rw [← e] at h
    simp only [okK, beqN] at hok
    subst hok
    intro w
    rw [nth_eq] at ha'
    cases hl : l[i]? with
    | none => rw [hl] at ha'; cases ha'
    | some y =>
      rw [hl] at ha'; cases ha'
      cases hx : ρ x <;> rw [hx] at h <;> first | (cases h; done) | skip
      cases h
      rename_i vs' hvs
      obtain ⟨u', hu', hr'⟩ := hvs.get hl
      have : vs'[i]? = some u' := by simpa using hu'
      exact ⟨u', by simp [execOp, hop, hx, Instr.extract, this], hr'⟩
  · cases ha'

theorem part_rel {t : TypeId} {n : Nat} {cs : List AVal} {cs' : Array Value} {off : Nat} {v : AVal} (hp : partIs P t n = true) (hr : VRels esz φ cs cs'.toList) (h : part n cs off = some v) :
    ∃ v', (∀ w, (Go.part t cs' off).run P w = .ok v' w) ∧ VRel esz φ v v' := by
  unfold partIs at hp
  cases hd : P.underlying t with
  | none => simp [hd] at hp
  | some d =>
    have agg : ∀ (hs : (sizeIs P t n && !(Nat.beq n 0)) = true) (ha : (match d with | .struct _ | .array _ _ => true | _ => false) = true), ∃ v', (∀ w, (Go.part t cs' off).run P w = .ok v' w) ∧ VRel esz φ v v' := by
      intro hs ha
      simp only [Bool.and_eq_true, Bool.not_eq_true'] at hs
      obtain ⟨i, hi, h1, h2, h3⟩ := sizeIs_some hs.1
      cases n with
      | zero => simp at hs
      | succ n =>
        cases h
        refine ⟨.agg (cs'.extract off (off + (n + 1))), fun w => ?_, .agg ?_⟩
        · cases d <;> first | (simp at ha; done) | simp [Go.part, isAgg, run_underlying hd, h3]
        · have := (hr.drop off).take (n + 1)
          simpa [Array.toList_extract, List.extract] using this
    have sc : ∀ (hs : Nat.beq n 0 = true) (ha : (match d with | .struct _ | .array _ _ => true | _ => false) = false), ∃ v', (∀ w, (Go.part t cs' off).run P w = .ok v' w) ∧ VRel esz φ v v' := by
      intro hs ha
      have := beqN.1 hs
      subst this
      rw [part, nth_eq] at h
      obtain ⟨u, hu, hvr⟩ := hr.get h
      have hu' : cs'[off]? = some u := by simpa using hu
      exact ⟨u, fun w => by cases d <;> first | (simp at ha; done) | simp [Go.part, isAgg, run_underlying hd, hu'], hvr⟩
    cases d <;> simp only [hd] at hp <;> first | exact agg hp rfl | exact sc hp rfl

theorem pure_fld {off n : Nat} {vs : List AVal} {v : AVal} (hok : okK P o.op (.fld off n) = true) (hr : VRels esz φ vs ((argsOf o.op).map ρ)) (ha : actK (.fld off n) vs = .val v) :
    PureRes esz φ P ρ o v := by
  have ha' : aFld off n vs = .val v := ha
  cases hop : o.op <;> rw [hop] at hok hr <;> first | (simp [okK] at hok; done) | skip
  rename_i t x f
  unfold aFld at ha'
  split at ha'
  · rename_i cs
    obtain ⟨u, e, h⟩ := hr.inv1
    simp only [argsOf, List.map_cons, List.map_nil, List.cons.injEq, and_true] at e
    rw [← e] at h
    intro w
    simp only [okK] at hok
    cases hd : P.underlying t with
    | none => simp [hd] at hok
    | some d =>
      cases d <;> first | (simp [hd] at hok; done) | skip
      rename_i fs
      simp only [hd] at hok
      cases hf : fs[f]? with
      | none => simp [hf] at hok
      | some fl =>
        simp only [hf, Bool.and_eq_true, beqN] at hok
        obtain ⟨rfl, hs⟩ := hok
        cases hx : ρ x <;> rw [hx] at h <;> first | (cases h; done) | skip
        cases h
        rename_i cs' hcs
        cases hpt : part n cs fl.offset with
        | none => rw [hpt] at ha'; cases ha'
        | some y =>
          rw [hpt] at ha'; cases ha'
          obtain ⟨v', hv, hvr⟩ := part_rel hs hcs hpt
          exact ⟨v', by simp [execOp, hop, hx, Instr.field, run_underlying hd, hf, asAgg, hv], hvr⟩
  · cases ha'

theorem pure_iadrS {s : Nat} {vs : List AVal} {v : AVal} (hok : okK P o.op (.iadrS s) = true) (hr : VRels esz φ vs ((argsOf o.op).map ρ)) (ha : actK (.iadrS s) vs = .val v) :
    PureRes esz φ P ρ o v := by
  have ha' : aIadrS s vs = .val v := ha
  cases hop : o.op <;> rw [hop] at hok hr <;> first | (simp [okK] at hok; done) | skip
  rename_i t x ix
  unfold aIadrS at ha'
  split at ha'
  · rename_i i off len lo ex k n
    by_cases hb : Nat.blt n len = true
    · rw [bif_true hb] at ha'; cases ha'
      have hlt := bltN.1 hb
      obtain ⟨u1, u2, e, h1, h2⟩ := hr.inv2
      simp only [argsOf, List.map_cons, List.map_nil, List.cons.injEq, and_true] at e
      obtain ⟨rfl, rfl⟩ := e
      intro w
      simp only [okK] at hok
      cases hd : P.underlying t with
      | none => simp [hd] at hok
      | some d =>
        cases d <;> first | (simp [hd] at hok; done) | skip
        rename_i el
        simp only [hd] at hok
        obtain ⟨inf, hi, _, _, hsz⟩ := sizeIs_some hok
        cases hix : ρ ix <;> rw [hix] at h2 <;> first | (cases h2; done) | skip
        cases h2
        cases hx : ρ x <;> rw [hx] at h1 <;> first | (cases h1; done) | skip
        have hn : (0 : Int) ≤ (n : Int) ∧ (n : Int) < (len : Int) := by omega
        cases h1 with
        | slx _ _ _ hp =>
          rename_i p
          refine ⟨.pointer (some ⟨p.blk, p.base + (off + n * s), none⟩), ?_, .ptr _ hp⟩
          simp [execOp, hop, hx, hix, Instr.indexAt, asIntOf, run_underlying hd, hlt, hsz, addr_add, Nat.add_assoc]
        | sli _ _ _ _ hp h0 hz hc hs =>
          rename_i p
          refine ⟨.pointer (some ⟨p.blk, p.base + (off + n * s), none⟩), ?_, .ptr _ hp⟩
          simp [execOp, hop, hx, hix, Instr.indexAt, asIntOf, run_underlying hd, hlt, hsz, addr_add, Nat.add_assoc]
        | sle => omega
    · rw [bif_false (bool_false hb)] at ha'; cases ha'
  · cases ha'

theorem pure_iadrA {l s : Nat} {vs : List AVal} {v : AVal} (hok : okK P o.op (.iadrA l s) = true) (hr : VRels esz φ vs ((argsOf o.op).map ρ)) (ha : actK (.iadrA l s) vs = .val v) :
    PureRes esz φ P ρ o v := by
  have ha' : aIadrA l s vs = .val v := ha
  cases hop : o.op <;> rw [hop] at hok hr <;> first | (simp [okK] at hok; done) | skip
  rename_i t x ix
  unfold aIadrA at ha'
  split at ha'
  · rename_i i off k n
    by_cases hb : Nat.blt n l = true
    · rw [bif_true hb] at ha'; cases ha'
      have hlt := bltN.1 hb
      obtain ⟨u1, u2, e, h1, h2⟩ := hr.inv2
      simp only [argsOf, List.map_cons, List.map_nil, List.cons.injEq, and_true] at e
      obtain ⟨rfl, rfl⟩ := e
      intro w
      simp only [okK] at hok
      cases hd : P.underlying t with
      | none => simp [hd] at hok
      | some d =>
        cases d <;> first | (simp [hd] at hok; done) | skip
        rename_i m el
        simp only [hd, Bool.and_eq_true, beqN] at hok
        obtain ⟨rfl, hok⟩ := hok
        obtain ⟨inf, hi, _, _, hsz⟩ := sizeIs_some hok
        cases hix : ρ ix <;> rw [hix] at h2 <;> first | (cases h2; done) | skip
        cases h2
        cases hx : ρ x <;> rw [hx] at h1 <;> first | (cases h1; done) | skip
        have hn : (0 : Int) ≤ (n : Int) ∧ (n : Int) < (l : Int) := by omega
        cases h1 with
        | ptr _ hp =>
          rename_i p
          refine ⟨.pointer (some ⟨p.blk, p.base + (off + n * s), none⟩), ?_, .ptr _ hp⟩
          simp [execOp, hop, hx, hix, Instr.indexAt, Instr.sureAddr, asIntOf, run_underlying hd, hlt, hsz, addr_add, Nat.add_assoc]
    · rw [bif_false (bool_false hb)] at ha'; cases ha'
  · cases ha'

theorem nthN_eq (l : List Nat) (j : Nat) : nthN l j = l[j]? := by
  induction l generalizing j with
  | nil => rfl
  | cons x xs ih => cases j with
    | zero => rfl
    | succ j => rw [List.getElem?_cons_succ]; exact ih j
theorem ofBytes_get {s : ByteArray} {j b : Nat} (h : (ofBytes s)[j]? = some b) : ∃ x, s[j]? = some x ∧ x.toNat = b := by
  simp only [ofBytes, List.getElem?_map, Option.map_eq_some_iff] at h
  obtain ⟨x, hx, rfl⟩ := h
  refine ⟨x, ?_, rfl⟩
  have : j < s.size := by
    rcases Nat.lt_or_ge j s.data.toList.length with h | h
    · simpa using h
    · rw [List.getElem?_eq_none h] at hx; cases hx
  have h2 : s.data.toList[j]? = some (s[j]) := by
    rw [List.getElem?_eq_getElem (by simpa using this)]; rfl
  rw [h2] at hx
  simp [this]; exact Option.some.inj hx
theorem ofBytes_length (s : ByteArray) : (ofBytes s).length = s.size := by simp [ofBytes]

theorem pure_idxS {vs : List AVal} {v : AVal} (hok : okK P o.op .idxS = true) (hr : VRels esz φ vs ((argsOf o.op).map ρ)) (ha : actK .idxS vs = .val v) :
    PureRes esz φ P ρ o v := by
  have ha' : aIdxS vs = .val v := ha
  cases hop : o.op <;> rw [hop] at hok hr <;> first | (simp [okK] at hok; done) | skip
  rename_i t x ix
  unfold aIdxS at ha'
  split at ha'
  · rename_i l k n
    obtain ⟨u1, u2, e, h1, h2⟩ := hr.inv2
    simp only [argsOf, List.map_cons, List.map_nil, List.cons.injEq, and_true] at e
    obtain ⟨rfl, rfl⟩ := e
    intro w
    simp only [okK] at hok
    cases hd : P.underlying t with
    | none => simp [hd] at hok
    | some d =>
      cases d <;> first | (simp [hd] at hok; done) | skip
      cases hix : ρ ix <;> rw [hix] at h2 <;> first | (cases h2; done) | skip
      cases h2
      cases hx : ρ x <;> rw [hx] at h1 <;> first | (cases h1; done) | skip
      cases h1
      rename_i s
      rw [nthN_eq] at ha'
      cases hn : (ofBytes s)[n]? with
      | none => rw [hn] at ha'; cases ha'
      | some b =>
        rw [hn] at ha'; cases ha'
        obtain ⟨c, hc, rfl⟩ := ofBytes_get hn
        exact ⟨.int .u8 (c.toNat : Int), by simp [execOp, hop, hx, hix, Instr.index, asIntOf, run_underlying hd, hc], .int _ _⟩
  · cases ha'

theorem pure_idxA {l s n : Nat} {vs : List AVal} {v : AVal} (hok : okK P o.op (.idxA l s n) = true) (hr : VRels esz φ vs ((argsOf o.op).map ρ)) (ha : actK (.idxA l s n) vs = .val v) :
    PureRes esz φ P ρ o v := by
  have ha' : aIdxA l s n vs = .val v := ha
  cases hop : o.op <;> rw [hop] at hok hr <;> first | (simp [okK] at hok; done) | skip
  rename_i t x ix
  unfold aIdxA at ha'
  split at ha'
  · rename_i cs k j
    by_cases hb : Nat.blt j l = true
    · rw [bif_true hb] at ha'
      have hlt := bltN.1 hb
      obtain ⟨u1, u2, e, h1, h2⟩ := hr.inv2
      simp only [argsOf, List.map_cons, List.map_nil, List.cons.injEq, and_true] at e
      obtain ⟨rfl, rfl⟩ := e
      intro w
      simp only [okK] at hok
      cases hd : P.underlying t with
      | none => simp [hd] at hok
      | some d =>
        cases d <;> first | (simp [hd] at hok; done) | skip
        rename_i m el
        simp only [hd, Bool.and_eq_true, beqN] at hok
        obtain ⟨⟨rfl, hok⟩, hpt⟩ := hok
        obtain ⟨inf, hi, _, _, hsz⟩ := sizeIs_some hok
        cases hix : ρ ix <;> rw [hix] at h2 <;> first | (cases h2; done) | skip
        cases h2
        cases hx : ρ x <;> rw [hx] at h1 <;> first | (cases h1; done) | skip
        cases h1
        rename_i cs' hcs
        cases hq : part n cs (Nat.mul j s) with
        | none => rw [hq] at ha'; cases ha'
        | some y =>
          rw [hq] at ha'; cases ha'
          obtain ⟨v', hv, hvr⟩ := part_rel hpt hcs hq
          have hv' : ∀ w, (Go.part el cs' (j * s)).run P w = .ok v' w := hv
          exact ⟨v', by simp [execOp, hop, hx, hix, Instr.index, asIntOf, run_underlying hd, hlt, hsz, hv'], hvr⟩
    · rw [bif_false (bool_false hb)] at ha'; cases ha'
  · cases ha'
end
end Go.Am
