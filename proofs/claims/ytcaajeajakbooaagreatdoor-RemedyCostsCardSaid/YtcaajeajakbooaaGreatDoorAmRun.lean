/-
  Every instruction of the abstract machine is one of the model.
-/
import Derived.Test.YtcaajeajakbooaaGreatDoorAmStep
import Derived.Orders
set_option linter.unusedVariables false
set_option linter.unusedSimpArgs false
namespace Go.Am
open Go

/-! ### operands -/
noncomputable def evalO (x : Opd) (L : List AVal) (env : Env) : Option AVal :=
  match x with
  | .loc j => L[j]?
  | .slot t => env.get t
  | .lit v => some v

theorem oLoc_true {env : Env} {k : AVal → Bool} : ∀ (L : List AVal) (j : Nat), oLoc j L env k = true → ∃ v, L[j]? = some v ∧ k v = true
  | [], j, h => by cases h
  | x :: L, 0, h => ⟨x, rfl, h⟩
  | x :: L, j + 1, h => by
    obtain ⟨v, h1, h2⟩ := oLoc_true (env := env) L j h
    exact ⟨v, by simpa using h1, h2⟩
theorem opd_true {x : Opd} {L : List AVal} {env : Env} {k : AVal → Bool} (h : opd x L env k = true) : ∃ v, evalO x L env = some v ∧ k v = true := by
  cases x with
  | loc j => exact oLoc_true (env := env) L j h
  | slot t =>
    change oSlot t L env k = true at h
    unfold oSlot at h
    simp only [evalO]
    cases e : env.get t with
    | none => rw [e] at h; cases h
    | some v => rw [e] at h; exact ⟨v, rfl, h⟩
  | lit v => exact ⟨v, rfl, h⟩
theorem opds_true {L : List AVal} {env : Env} : ∀ {as : List Opd} {k : List AVal → Bool}, opds as L env k = true →
    ∃ vs, All2 (fun x v => evalO x L env = some v) as vs ∧ k vs = true
  | [], k, h => ⟨[], .nil, h⟩
  | x :: as, k, h => by
    change opd x L env (fun v => opds as L env (fun l => k (v :: l))) = true at h
    obtain ⟨v, h1, h2⟩ := opd_true h
    obtain ⟨vs, h3, h4⟩ := opds_true (as := as) h2
    exact ⟨v :: vs, .cons h1 h3, h4⟩

section
variable {esz : TypeId → Nat} {G : Nat → Prop} {P : Program} {φ : Phi} {H H' : AHeap} {N : Nat} {w : World} {a : Go.Act} {L : List AVal} {env : Env}

/-- the AM's operand stands for the program's -/
def OR (esz : TypeId → Nat) (φ : Phi) (L : List AVal) (env : Env) (a : Go.Act) (x : Operand) (d : Opd) : Prop :=
  ∀ v, evalO d L env = some v → VRel esz φ v (a.eval x)
theorem rels_of {xs : List Operand} {as : List Opd} {vs : List AVal} (h : All2 (OR esz φ L env a) xs as) (k : All2 (fun x v => evalO x L env = some v) as vs) :
    VRels esz φ vs (xs.map a.eval) := by
  induction h generalizing vs with
  | nil => cases k; exact .nil
  | cons h t ih => cases k with | cons k1 k2 => exact .cons (h _ k1) (ih k2)

theorem names (a : Go.Act) : Names a.eval := by
  intro f g h
  unfold direct at h
  split at h <;> cases h <;> rfl

/-! ### new objects -/
def Act.okSh : Act → Prop
  | .new _ ob => ∀ x cs e g v, ob x = .cells cs e g v → g = x ∧ v = 0
  | _ => True
theorem okSh_V {a : Act} (h : a.okV = true) : a.okSh := by cases a <;> first | trivial | cases h
theorem okSh_R {a : Act} (h : a.okR = true) : a.okSh := by cases a <;> first | trivial | cases h
theorem okSh_E {a : Act} (h : a.okE = true) : a.okSh := by cases a <;> first | trivial | cases h
theorem okSh_VE {a : Act} (h : a.okVE = true) : a.okSh := by cases a <;> first | trivial | cases h
theorem okSh_cells (v : Nat → AVal) (cs : List AVal) (e : TypeId) : (newCells v cs e).okSh := fun x cs' e' g vv h => by cases h; exact ⟨rfl, rfl⟩
theorem okSh_bif {b : Bool} {x y : Act} (hx : x.okSh) (hy : y.okSh) : Act.okSh (bif b then x else y) := by cases b <;> assumption
theorem act_shape (k : K) (vs : List AVal) : (actK k vs).okSh := by
  cases k with
  | mov  => exact okSh_V (okV_Mov  vs)
  | pick  => exact okSh_V (okV_Pick  vs)
  | build z ps => exact okSh_V (okV_Build z ps vs)
  | nilChk  => exact okSh_V (okV_NilChk  vs)
  | bin op e => exact okSh_V (okV_Bin op e vs)
  | un op => exact okSh_V (okV_Un op vs)
  | ifc t => exact okSh_V (okV_Ifc t vs)
  | clos f n => exact okSh_V (okV_Clos f n vs)
  | slS lo hi => exact okSh_V (okV_SlS lo hi vs)
  | slE s lo hi mx => exact okSh_V (okV_SlE s lo hi mx vs)
  | slA n s lo hi => exact okSh_V (okV_SlA n s lo hi vs)
  | fadr off => exact okSh_V (okV_Fadr off vs)
  | fld off n => exact okSh_V (okV_Fld off n vs)
  | iadrS s => exact okSh_V (okV_IadrS s vs)
  | iadrA l s => exact okSh_V (okV_IadrA l s vs)
  | idxS  => exact okSh_V (okV_IdxS  vs)
  | idxA l s n => exact okSh_V (okV_IdxA l s n vs)
  | tas t z ok => exact okSh_V (okV_Tas t z ok vs)
  | ext i => exact okSh_V (okV_Ext i vs)
  | len str => exact okSh_V (okV_Len str vs)
  | lenA n => exact okSh_V (okV_LenA n vs)
  | cap  => exact okSh_V (okV_Cap  vs)
  | min  => exact okSh_V (okV_Min  vs)
  | max  => exact okSh_V (okV_Max  vs)
  | unsSlD  => exact okSh_V (okV_UnsSlD  vs)
  | idxByteStr  => exact okSh_V (okV_IdxByteStr  vs)
  | cmpStr  => exact okSh_V (okV_CmpStr  vs)
  | load1  => exact okSh_R (okR_Load1  vs)
  | loadN n => exact okSh_R (okR_LoadN n vs)
  | look e z ok => exact okSh_R (okR_Look e z ok vs)
  | lenM  => exact okSh_R (okR_LenM  vs)
  | store n => exact okSh_E (okE_Store n vs)
  | mset e => exact okSh_E (okE_Mset e vs)
  | ment e z => exact okSh_E (okE_Ment e z vs)
  | mst  => exact okSh_E (okE_Mst  vs)
  | nxtS  => exact okSh_E (okE_NxtS  vs)
  | app e s b => exact okSh_E (okE_App e s b vs)
  | copy s => exact okSh_E (okE_Copy s vs)
  | del e => exact okSh_E (okE_Del e vs)
  | noZero e => exact okSh_E (okE_NoZero e vs)
  | noEsc => exact okSh_V (okV_Mov vs)
  | unsStr e => exact okSh_VE (okVE_UnsStr e vs)
  | alloc e z => show (aAlloc e z vs).okSh; unfold aAlloc; split <;> first | exact okSh_cells _ _ _ | trivial
  | box e => show (aBox e vs).okSh; unfold aBox; split <;> first | exact okSh_cells _ _ _ | trivial
  | buildSl e len z ps => show (aBuildSl e len z ps vs).okSh; unfold aBuildSl; split <;> first | exact okSh_cells _ _ _ | trivial
  | mkSl e b z => show (aMkSl e b z vs).okSh; unfold aMkSl; split <;> first | trivial | (apply okSh_bif; exact okSh_cells _ _ _; trivial)
  | mkMap => exact fun x cs e g v h => by cases h
  | rngS => show (aRngS vs).okSh; unfold aRngS; split <;> first | trivial | exact fun x cs e g v h => by cases h
  | conv c =>
    show (aConv c vs).okSh
    cases c
    · show (cInt _ vs).okSh; unfold cInt; split <;> trivial
    · show (cSame vs).okSh; unfold cSame; split <;> trivial
    · show (cPtrUns _ vs).okSh; unfold cPtrUns; repeat' (first | trivial | apply okSh_bif | split)
    · show (cUnsPtr _ _ vs).okSh; unfold cUnsPtr; repeat' (first | trivial | apply okSh_bif | split)
    · show (cBytes _ vs).okSh; unfold cBytes; split <;> first | exact okSh_cells _ _ _ | trivial
    · show (cStrOf vs).okSh; unfold cStrOf; repeat' (first | trivial | apply okSh_bif | split)

theorem pend_run {ρ : Operand → Value} {o : Oper} {x : Nat} {v : Nat → AVal} {ob : Nat → AObj} (h : NewRes esz φ P ρ o w x v ob) (S : Sim esz φ G H w.heap) (hx : φ x = none)
    (ho : H.objs.get x = some (ob x)) (hgr : H.grps.get x = none) (hN : N ≤ x) (hsh : ∀ cs e g vv, ob x = .cells cs e g vv → g = x ∧ vv = 0) :
    ∃ v' p w', (execOp ρ o).run P w = .ok (.value v') w' ∧ VRel esz (lnk φ x p) (v x) v' ∧ Sim esz (lnk φ x p) G H w'.heap ∧ Step N φ H w (lnk φ x p) H w' := by
  obtain ⟨v', w', ob', size, elem, h1, h2, h3, h4, h5, h6⟩ := h
  let p : PI := ⟨w.heap.size, 0, size, elem⟩
  obtain ⟨h7, h8⟩ := h6 (lnk φ x p) H (link_ext hx) (link_self φ x p)
  refine ⟨v', p, w', h1, h7, ?_, Step.link hx hN rfl h2 h3 h4 h5⟩
  rw [h2] at h8 ⊢
  refine S.link hx ho ?_ hgr rfl rfl h8
  intro g hg
  cases e : ob x with
  | cells cs e' g' vv => rw [e] at hg; cases hg; exact (hsh _ _ _ _ e).1
  | map es c pm => rw [e] at hg; cases hg
  | siter s pos => rw [e] at hg; cases hg

theorem Sim.none_next {heap : Array Obj} (S : Sim esz φ G H heap) : φ H.next = none := by
  cases h : φ H.next with
  | none => rfl
  | some p => exact absurd (S.lt _ _ h) (Nat.lt_irrefl _)

theorem new_run {ρ : Operand → Value} {o : Oper} {v : Nat → AVal} {ob : Nat → AObj} (h : NewRes esz φ P ρ o w H.next v ob) (S : Sim esz φ G H w.heap) (hN : N ≤ H.next)
    (hsh : ∀ x cs e g vv, ob x = .cells cs e g vv → g = x ∧ vv = 0) :
    ∃ v' φ' w', (execOp ρ o).run P w = .ok (.value v') w' ∧ VRel esz φ' (v H.next) v' ∧ Sim esz φ' G (H.newObj (ob H.next)) w'.heap ∧ Step N φ H w φ' (H.newObj (ob H.next)) w' := by
  have S1 := S.phantom (ob H.next) (fun cs e g vv e1 => hsh _ cs e g vv e1)
  obtain ⟨v', p, w', h1, h2, h3, h4⟩ := pend_run (N := N) h S1 S.none_next (by simp) (by rw [newObj_grps]; exact (S.fresh _ (Nat.le_refl _)).2) hN (fun cs e g vv e1 => hsh _ cs e g vv e1)
  exact ⟨v', _, w', h1, h2, h3, (Step.phantom S hN _).trans h4⟩

/-! ### one instruction -/
theorem op_wp (hesz : ∀ t, esz t = P.cellsOf t) {o : Oper} {k : K} {as : List Opd} {kn : IK} {next : Go.Act → World → Prop} {Q : Exit → Go.Act → World → Prop}
    (h : nOp k as L env H kn = true) (hok : okK P o.op k = true) (ho : All2 (OR esz φ L env a) (argsOf o.op) as) (S : Sim esz φ G H w.heap) (hN : N ≤ H.next)
    (hn : ∀ v v' φ' H' w', kn (v :: L) env H' = true → VRel esz φ' v v' → Sim esz φ' G H' w'.heap → Step N φ H w φ' H' w' → next (a.put o.dst v') w') :
    o.wp P a w next Q := by
  obtain ⟨vs, h1, h2⟩ := opds_true h
  have hr := rels_of ho h1
  have hsh := act_shape k vs
  have hA := act_run (G := G) (names a) hesz hok hr
  generalize actK k vs = r at h2 hA hsh
  unfold Oper.wp
  cases hA with
  | bad => cases h2
  | val hp =>
    obtain ⟨v', e1, e2⟩ := hp w
    rw [e1]
    exact hn _ _ _ _ _ h2 e2 S (Step.refl ..)
  | @rd f hp =>
    simp only [nAct] at h2
    split at h2
    · rename_i v hf
      obtain ⟨v', e1, e2⟩ := hp H w v hf S
      rw [e1]
      exact hn _ _ _ _ _ h2 e2 S (Step.refl ..)
    · cases h2
  | @new v ob hp =>
    obtain ⟨v', φ', w', e1, e2, e3, e4⟩ := new_run (hp w H.next) S hN hsh
    rw [e1]
    exact hn _ _ _ _ _ h2 e2 e3 e4
  | @eff f hp =>
    simp only [nAct] at h2
    split at h2
    · rename_i v H1 hf
      obtain ⟨φ', nx, w', e1, e2, e3, e4⟩ := hp N H w v H1 hf S hN
      rw [e1]
      cases e2 with
      | value e2 => exact hn _ _ _ _ _ h2 e2 e3 e4
      | skip => exact hn _ _ _ _ _ h2 (.tup .nil) e3 e4
    · cases h2

/-- what a call of the AM shows of the program's call -/
def CallOK (esz : TypeId → Nat) (G : Nat → Prop) (P : Program) (call : CallT) : Prop :=
  ∀ f args H k kp, (∀ v H, kp v H = false) → call f args H k kp = true →
    (∃ fn, P.funcs[f]? = some fn ∧ fn.body.isSome = true ∧ fn.name ≠ "runtime.NumGoroutine") ∧
    ∀ φ N w (vs : Array Value), VRels esz φ args vs.toList → Sim esz φ G H w.heap → N ≤ H.next →
      Calls P f vs w fun e w' => match e with
        | .returned v' => ∃ v φ' H', VRel esz φ' v v' ∧ Sim esz φ' G H' w'.heap ∧ Step N φ H w φ' H' w' ∧ k v H' = true
        | _ => False

/-- the same, of one state alone -/
def CallHere (esz : TypeId → Nat) (G : Nat → Prop) (P : Program) (call : CallT) (φ : Phi) (H : AHeap) (w : World) : Prop :=
  ∀ f args k kp, (∀ v H, kp v H = false) → call f args H k kp = true →
    (∃ fn, P.funcs[f]? = some fn ∧ fn.body.isSome = true ∧ fn.name ≠ "runtime.NumGoroutine") ∧
    ∀ N (vs : Array Value), VRels esz φ args vs.toList → N ≤ H.next →
      Calls P f vs w fun e w' => match e with
        | .returned v' => ∃ v φ' H', VRel esz φ' v v' ∧ Sim esz φ' G H' w'.heap ∧ Step N φ H w φ' H' w' ∧ k v H' = true
        | _ => False
theorem CallOK.here {call : CallT} (h : CallOK esz G P call) (S : Sim esz φ G H w.heap) : CallHere esz G P call φ H w := fun f args k kp hkp hc =>
  ⟨(h f args H k kp hkp hc).1, fun N vs hr hN => (h f args H k kp hkp hc).2 φ N w vs hr S hN⟩

theorem callFunc_run {f : FuncId} {fn : Func} (h : P.funcs[f]? = some fn) (hb : fn.body.isSome = true) (hn : fn.name ≠ "runtime.NumGoroutine") (vs : Array Value) :
    (callFunc f vs).run P w = .ok (.enter f vs) w := by
  have hb' : fn.body ≠ none := by intro e; rw [e] at hb; cases hb
  simp [callFunc, h, hn, hb']

theorem call_wp {o : Oper} {c : Call} {x : Operand} {f : FuncId} {first cap : Array Value} {call : CallT} {args : List AVal} {kv : AVal → AHeap → Bool} {kp : Cont} (hC : CallHere esz G P call φ H w) (hkp : ∀ v H, kp v H = false)
    (hop : o.op = .call c) (hc : c.callee = .value x) (hx : a.eval x = .func (.func f) first cap) {next : Go.Act → World → Prop} {Q : Exit → Go.Act → World → Prop}
    (h : call f args H kv kp = true) (hr : VRels esz φ args (first.toList ++ c.args.toList.map a.eval ++ cap.toList)) (S : Sim esz φ G H w.heap) (hN : N ≤ H.next)
    (hn : ∀ v v' φ' H' w', kv v H' = true → VRel esz φ' v v' → Sim esz φ' G H' w'.heap → Step N φ H w φ' H' w' → next (a.put o.dst v') w') :
    o.wp P a w next Q := by
  obtain ⟨⟨fn, h1, h2, h3⟩, h4⟩ := hC f args kv kp hkp h
  have hrun : (execOp a.eval o).run P w = .ok (.enter f (first ++ c.args.map a.eval ++ cap)) w := by
    have := callFunc_run (w := w) h1 h2 h3 (first ++ c.args.map a.eval ++ cap)
    simp only [execOp, hop, resolve, hc, hx, Deferred.ofValue]
    simpa [invoke] using this
  unfold Oper.wp
  rw [hrun, Oper.upon_enter]
  refine Calls.mono (h4 N _ (by simpa using hr) hN) ?_
  intro e w' he
  cases e with
  | returned v' =>
    obtain ⟨v, φ', H', e1, e2, e3, e4⟩ := he
    exact hn _ _ _ _ _ e4 e1 e2 e3
  | panicked c => exact he.elim
  | outgrown => exact he.elim

def okCallF (o : Op) (f : FuncId) : Bool :=
  match o with
  | .call c => (match c.callee with | .value x => (match direct x with | some g => Nat.beq f g | none => false) | _ => false)
  | _ => false
def okCallV (o : Op) : Bool :=
  match o with
  | .call c => (match c.callee with | .value x => (match direct x with | some _ => false | none => true) | _ => false)
  | _ => false
def insArgs : Ins → List Opd
  | .op _ as => as
  | .call as => as
  | .callF _ as => as
  | _ => []
def all2 {α β : Type} (f : α → β → Bool) : List α → List β → Bool
  | [], [] => true
  | x :: xs, y :: ys => f x y && all2 f xs ys
  | _, _ => false
theorem all2_iff {α β : Type} {f : α → β → Bool} {R : α → β → Prop} (hf : ∀ x y, f x y = true → R x y) : ∀ {l : List α} {m : List β}, all2 f l m = true → All2 R l m
  | [], [], _ => .nil
  | [], _ :: _, h => by cases h
  | _ :: _, [], h => by cases h
  | x :: xs, y :: ys, h => by
    simp only [all2, Bool.and_eq_true] at h
    exact .cons (hf _ _ h.1) (all2_iff hf h.2)

/-- an instruction without a guard carries out the operation -/
def okI (P : Program) (od : Operand → Opd → Bool) (o : Op) (i : Ins) : Bool :=
  match i with
  | .op k as => okK P o k && all2 od (argsOf o) as
  | .callF f as => okCallF o f && all2 od (argsOf o) as
  | .call as => okCallV o && all2 od (argsOf o) as
  | .panic _ => true
  | _ => false

theorem argsOf_direct {c : Call} {x : Operand} {g : FuncId} (hc : c.callee = .value x) (h : direct x = some g) : argsOf (.call c) = c.args.toList := by
  unfold direct at h
  split at h <;> cases h <;> simp [argsOf, hc]
theorem argsOf_value {c : Call} {x : Operand} (hc : c.callee = .value x) (h : direct x = none) : argsOf (.call c) = x :: c.args.toList := by
  unfold direct at h
  simp only [argsOf, hc]
  split <;> simp_all

theorem ins_wp (hesz : ∀ t, esz t = P.cellsOf t) {o : Oper} {i : Ins} {od : Operand → Opd → Bool} {call : CallT} {rc : AVal} {kp : AVal → EK} {kn : IK} {next : Go.Act → World → Prop} {Q : Exit → Go.Act → World → Prop}
    (hC : CallHere esz G P call φ H w) (hkp : ∀ v env H, kp v env H = false) (hod : ∀ x d, od x d = true → OR esz φ L env a x d)
    (hok : okI P od o.op i = true) (h : insK call rc kp i L env H kn = true) (S : Sim esz φ G H w.heap) (hN : N ≤ H.next)
    (hn : ∀ v v' φ' H' w', kn (v :: L) env H' = true → VRel esz φ' v v' → Sim esz φ' G H' w'.heap → Step N φ H w φ' H' w' → next (a.put o.dst v') w') :
    o.wp P a w next Q := by
  cases i <;> simp only [okI] at hok <;> first | (cases hok; done) | skip
  · rename_i k as
    rw [Bool.and_eq_true] at hok
    exact op_wp hesz h hok.1 (all2_iff hod hok.2) S hN hn
  · rename_i as
    rw [Bool.and_eq_true] at hok
    obtain ⟨h1, h2⟩ := hok
    cases hop : o.op <;> rw [hop] at h1 h2 <;> simp only [okCallV] at h1 <;> first | (cases h1; done) | skip
    rename_i c
    cases hc : c.callee <;> rw [hc] at h1 <;> simp only at h1 <;> first | (cases h1; done) | skip
    rename_i x
    cases hd : direct x with
    | some g => rw [hd] at h1; cases h1
    | none =>
      rw [argsOf_value hc hd] at h2
      obtain ⟨vs, e1, e2⟩ := opds_true (show opds as L env _ = true from h)
      have hr := rels_of (all2_iff hod h2) e1
      rw [List.map_cons] at hr
      try simp only at e2
      split at e2
      · rename_i f first cap vs'
        cases hr with
        | cons hf hvs =>
          generalize hx : a.eval x = u at hf
          cases hf with
          | fn _ ha hb =>
            exact call_wp hC (fun v H => hkp v env H) hop hc hx e2 ((ha.append hvs).append hb) S hN hn
      · cases e2
  · rename_i f as
    rw [Bool.and_eq_true] at hok
    obtain ⟨h1, h2⟩ := hok
    cases hop : o.op <;> rw [hop] at h1 h2 <;> simp only [okCallF] at h1 <;> first | (cases h1; done) | skip
    rename_i c
    cases hc : c.callee <;> rw [hc] at h1 <;> simp only at h1 <;> first | (cases h1; done) | skip
    rename_i x
    cases hd : direct x with
    | none => rw [hd] at h1; cases h1
    | some g =>
      rw [hd] at h1
      simp only [beqN] at h1
      subst h1
      rw [argsOf_direct hc hd] at h2
      obtain ⟨vs, e1, e2⟩ := opds_true (show opds as L env _ = true from h)
      have hr := rels_of (all2_iff hod h2) e1
      exact call_wp hC (fun v H => hkp v env H) hop hc (names a x f hd) e2 (by simpa using hr) S hN hn
  · rename_i x
    exfalso
    obtain ⟨v, _, e⟩ := opd_true (show opd x L env _ = true from h)
    try simp only at e
    split at e
    · rw [hkp] at e; cases e
    · cases e

/-- the program's guard, as the AM's operand tells it -/
def okG (P : Program) (ops : Array Oper) (od : Operand → Opd → Bool) (o : Oper) (i : Ins) : Bool :=
  match o.guard, i with
  | none, .gd .. => false
  | none, i => okI P od o.op i
  | some (j, want), .gd g want' i =>
    eqBool want want' && (match (ops[j]?).bind (·.dst) with | some t => od (.tmp t) g | none => false) && okI P od o.op i
  | some _, .panic _ => true
  | some _, _ => false

theorem yielded_bool {ops : Array Oper} {j t : Nat} {b : Bool} (hj : (ops[j]?).bind (·.dst) = some t) (h : VRel esz φ (.bool b) (a.eval (.tmp t))) : yielded ops a.tmps j = some b := by
  unfold yielded
  rw [hj]
  simp only [Option.bind_some]
  generalize hu : a.eval (.tmp t) = u at h
  cases h
  simp only [Act.eval] at hu
  cases e : a.tmps[t]? with
  | none => rw [Array.getD_eq_getD_getElem?, e] at hu; cases hu
  | some x => rw [Array.getD_eq_getD_getElem?, e] at hu; simp at hu; subst hu; rfl
theorem yielded_tup {ops : Array Oper} {j t : Nat} {cs : List AVal} (hj : (ops[j]?).bind (·.dst) = some t) (h : VRel esz φ (.tup cs) (a.eval (.tmp t))) : yielded ops a.tmps j = none := by
  unfold yielded
  rw [hj]
  simp only [Option.bind_some]
  generalize hu : a.eval (.tmp t) = u at h
  cases h
  simp only [Act.eval] at hu
  cases e : a.tmps[t]? with
  | none => rfl
  | some x => rw [Array.getD_eq_getD_getElem?, e] at hu; simp at hu; subst hu; rfl

theorem ins_wpOp (hesz : ∀ t, esz t = P.cellsOf t) {ops : Array Oper} {n : Nat} {o : Oper} {i : Ins} {od : Operand → Opd → Bool} {call : CallT} {rc : AVal} {kp : AVal → EK} {kn : IK} {next : Go.Act → World → Prop}
    {Q : Exit → Go.Act → World → Prop} (ho : ops[n]? = some o)
    (hC : CallHere esz G P call φ H w) (hkp : ∀ v env H, kp v env H = false) (hod : ∀ x d, od x d = true → OR esz φ L env a x d)
    (hok : okG P ops od o i = true) (h : insK call rc kp i L env H kn = true) (S : Sim esz φ G H w.heap) (hN : N ≤ H.next)
    (hn : ∀ v v' φ' H' w', kn (v :: L) env H' = true → VRel esz φ' v v' → Sim esz φ' G H' w'.heap → Step N φ H w φ' H' w' → next (a.put o.dst v') w') :
    wpOp P ops Q n next a w := by
  unfold wpOp
  simp only [ho]
  cases hg : o.guard with
  | none =>
    have hw : Region.wanted o (yielded ops a.tmps) = true := by simp [Region.wanted, hg]
    rw [if_pos hw]
    refine .inl (ins_wp hesz hC hkp hod ?_ h S hN hn)
    unfold okG at hok
    rw [hg] at hok
    cases i <;> first | exact hok | cases hok
  | some jw =>
    obtain ⟨j, want⟩ := jw
    unfold okG at hok
    rw [hg] at hok
    cases i <;> simp only at hok <;> first | (cases hok; done) | skip
    · rename_i x
      exfalso
      obtain ⟨v, _, e⟩ := opd_true (show opd x L env _ = true from h)
      try simp only at e
      split at e
      · rw [hkp] at e; cases e
      · cases e
    · rename_i g want' i
      simp only [Bool.and_eq_true, eqBool_iff] at hok
      obtain ⟨⟨rfl, h1⟩, h2⟩ := hok
      obtain ⟨v, e1, e2⟩ := opd_true (show opd g L env _ = true from h)
      cases hj : (ops[j]?).bind (·.dst) with
      | none => rw [hj] at h1; cases h1
      | some t =>
        rw [hj] at h1
        have hv := hod _ _ h1 v e1
        cases v <;> simp only at e2 <;> first | (cases e2; done) | skip
        · rename_i b
          have hy := yielded_bool hj hv
          by_cases hb : b = want
          · subst hb
            rw [bif_true (by rw [eqBool_iff])] at e2
            rw [if_pos (by simp [Region.wanted, hg, hy])]
            exact .inl (ins_wp hesz hC hkp hod h2 e2 S hN hn)
          · rw [bif_false (by rw [Bool.eq_false_iff]; intro hh; exact hb (eqBool_iff.1 hh))] at e2
            rw [if_neg (by simp [Region.wanted, hg, hy]; exact hb)]
            exact hn _ _ _ _ _ e2 (.tup .nil) S (Step.refl ..)
        · have hy := yielded_tup hj hv
          rw [if_neg (by simp [Region.wanted, hg, hy])]
          exact hn _ _ _ _ _ e2 (.tup .nil) S (Step.refl ..)
end
end Go.Am
