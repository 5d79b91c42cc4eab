/-
  Regions in the order of the text are run as by the model.
-/
import Derived.Test.YtcaajeajakbooaaGreatDoorAmRun
import Derived.LoopN
import Derived.Defers
set_option linter.unusedVariables false
set_option linter.unusedSimpArgs false
namespace Go.Am
open Go

/-! ### regions in text order -/
inductive Sr where
  | pos (p : Nat)
  | slot (t : Nat)
  | cst (x : Operand)
  | dead

def look (t : Nat) : List (Nat × Sr) → Option Sr
  | [] => none
  | (u, s) :: l => bif Nat.beq u t then some s else look t l
def killS (d : Nat) (s : Sr) : Sr := match s with | .slot t => (bif Nat.beq t d then .dead else .slot t) | s => s
def kill (d : Nat) : List (Nat × Sr) → List (Nat × Sr)
  | [] => []
  | (u, s) :: l => (u, killS d s) :: kill d l
def cstOk (gl : Nat → Bool) (x : Operand) (v : AVal) : Bool :=
  match x with
  | .const u => cr 20 v u
  | .func f => (match v with | .fn g [] [] => Nat.beq f g | _ => false)
  | .global g => (match v with | .ptr i o => Nat.beq g i && Nat.beq o 0 && gl g | _ => false)
  | .tmp _ => false
def srcOf (srcs : List (Nat × Sr)) (x : Operand) : Sr := match x with | .tmp t => (match look t srcs with | some s => s | none => .slot t) | x => .cst x
def srOk (gl : Nat → Bool) (cur : Nat) (s : Sr) (d : Opd) : Bool :=
  match s, d with
  | .pos p, .loc j => Nat.beq (Nat.succ (Nat.add j p)) cur
  | .slot u, .slot t => Nat.beq u t
  | .cst x, .lit v => cstOk gl x v
  | _, _ => false
def odL (gl : Nat → Bool) (srcs : List (Nat × Sr)) (cur : Nat) (x : Operand) (d : Opd) : Bool := srOk gl cur (srcOf srcs x) d

def mvOf (o : Oper) : Option (Operand × Nat) :=
  match o.guard, o.dst with
  | none, some d => (match o.op with | .move x => some (x, d) | .assign x => some (x, d) | _ => none)
  | _, _ => none

section
variable (P : Program) (gl : Nat → Bool) (ops : Array Oper) (nt mask : Nat)
def genL (rec : List Ins → List (Nat × Sr) → Nat → Bool) (o : Oper) (ins : List Ins) (srcs : List (Nat × Sr)) (cur : Nat) : Bool :=
  match ins with
  | [] => false
  | i :: ins' => okG P ops (odL gl srcs cur) o i && (match o.dst with
    | none => rec ins' srcs (Nat.succ cur)
    | some d => Nat.blt d nt && (bif Nat.testBit mask d
        then (match ins' with | .keep d' :: ins'' => Nat.beq d d' && rec ins'' ((d, .pos cur) :: kill d srcs) (Nat.succ cur) | _ => false)
        else rec ins' ((d, .pos cur) :: srcs) (Nat.succ cur)))
def eliL (rec : List Ins → List (Nat × Sr) → Nat → Bool) (x : Operand) (d : Nat) (ins : List Ins) (srcs : List (Nat × Sr)) (cur : Nat) : Bool :=
  Nat.blt d nt && rec ins ((d, srcOf srcs x) :: srcs) cur
def movL (rec : List Ins → List (Nat × Sr) → Nat → Bool) (o : Oper) (x : Operand) (d : Nat) (ins : List Ins) (srcs : List (Nat × Sr)) (cur : Nat) : Bool :=
  bif Nat.testBit mask d then
    (match ins with
    | .asg d' od :: ins' => Nat.beq d d' && Nat.blt d nt && odL gl srcs cur x od && rec ins' ((d, .slot d) :: kill d srcs) cur
    | _ => false)
  else match ins with
    | .op .mov [od] :: _ => (bif odL gl srcs cur x od then genL P gl ops nt mask rec o ins srcs cur else eliL nt rec x d ins srcs cur)
    | _ => eliL nt rec x d ins srcs cur
def dfrL (np : Nat → Bool) (rec : List Ins → List (Nat × Sr) → Nat → Bool) (o : Oper) (ins : List Ins) (srcs : List (Nat × Sr)) (cur : Nat) : Bool :=
  match ins with
  | .defer g as :: ins' => np g && ((match o.guard, o.dst with | none, none => true | _, _ => false) && (all2 (odL gl srcs cur) (argsOf o.op) as && rec ins' srcs (Nat.succ cur)))
  | _ => false
def isDfr (o : Op) : Bool := match o with | .defer c => (match c.callee with | .value _ => true | _ => false) | _ => false
def isPan (ins : List Ins) : Bool := match ins with | .panic _ :: _ => true | _ => false
def chkL (np : Nat → Bool) : List Oper → List Ins → List (Nat × Sr) → Nat → Bool
  | [], ins, _, _ => ins.isEmpty
  | o :: os, ins, srcs, cur =>
    isPan ins || (bif isDfr o.op then dfrL gl np (chkL np os) o ins srcs cur else match mvOf o with
    | some (x, d) => movL P gl ops nt mask (chkL np os) o x d ins srcs cur
    | none => genL P gl ops nt mask (chkL np os) o ins srcs cur)
end

section
variable {esz : TypeId → Nat} {gl : Nat → Bool} {P : Program} {φ φ' : Phi} {H H' : AHeap} {N nt mask : Nat} {w : World} {a : Go.Act} {L : List AVal} {env : Env} {cur : Nat} {srcs : List (Nat × Sr)}

/-- a deferred call that does nothing where nothing panics -/
def NopF (P : Program) (f : FuncId) : Prop :=
  (∃ fn, P.funcs[f]? = some fn ∧ fn.body.isSome = true ∧ fn.name ≠ "runtime.NumGoroutine") ∧
  ∀ args w, CallsD P f args .returning w fun e u' w' => (∃ v, e = .returned v) ∧ u' = .returning ∧ w'.heap = w.heap ∧ w'.os = w.os ∧ w'.tape = w.tape ∧ w'.output = w.output
def NopD (P : Program) (d : Deferred) : Prop := ∃ f cap, d.target = .fn (.func f) cap ∧ NopF P f

/-- the frame as the AM has it -/
structure EI (P : Program) (esz : TypeId → Nat) (nt mask : Nat) (φ : Phi) (env : Env) (a : Go.Act) : Prop where
  ev : ∀ t v, env.get t = some v → Nat.testBit mask t = true ∧ VRel esz φ v (a.eval (.tmp t))
  size : nt ≤ a.tmps.size
  defs : ∀ d ∈ a.defers, NopD P d
theorem EI.mono (e : Ext φ φ') (h : EI P esz nt mask φ env a) : EI P esz nt mask φ' env a := ⟨fun t v k => ⟨(h.ev t v k).1, (h.ev t v k).2.mono e⟩, h.size, h.defs⟩

def SrI (esz : TypeId → Nat) (φ : Phi) (L : List AVal) (env : Env) (cur : Nat) (a : Go.Act) (x : Operand) : Sr → Prop
  | .pos p => p < cur ∧ ∀ j v, j + p + 1 = cur → L[j]? = some v → VRel esz φ v (a.eval x)
  | .slot u => ∀ v, env.get u = some v → VRel esz φ v (a.eval x)
  | .cst y => a.eval x = a.eval y ∧ ∀ t, y ≠ .tmp t
  | .dead => True

structure LI (P : Program) (esz : TypeId → Nat) (nt mask : Nat) (φ : Phi) (L : List AVal) (env : Env) (cur : Nat) (srcs : List (Nat × Sr)) (a : Go.Act) : Prop extends EI P esz nt mask φ env a where
  len : L.length = cur
  src : ∀ t s, look t srcs = some s → SrI esz φ L env cur a (.tmp t) s

theorem LI.srcOf (h : LI P esz nt mask φ L env cur srcs a) (x : Operand) : SrI esz φ L env cur a x (srcOf srcs x) := by
  cases x with
  | tmp t =>
    simp only [Am.srcOf]
    cases e : look t srcs with
    | some s => exact h.src t s e
    | none => exact fun v hv => (h.ev t v hv).2
  | const u => exact ⟨rfl, fun t ht => by cases ht⟩
  | global g => exact ⟨rfl, fun t ht => by cases ht⟩
  | func f => exact ⟨rfl, fun t ht => by cases ht⟩

theorem cstOk_rel {heap : Array Obj} (S : Sim esz φ (fun g => gl g = true) H heap) {x : Operand} {v : AVal} (h : cstOk gl x v = true) : VRel esz φ v (a.eval x) := by
  cases x with
  | tmp t => cases h
  | const u => exact cr_rel 20 v u h
  | func f =>
    simp only [cstOk] at h
    split at h
    · rw [beqN] at h; subst h; exact .fn _ .nil .nil
    · cases h
  | global g =>
    simp only [cstOk] at h
    split at h
    · simp only [Bool.and_eq_true, beqN] at h
      obtain ⟨⟨rfl, rfl⟩, h3⟩ := h
      obtain ⟨p, h4, h5, h6⟩ := S.glob g h3
      have := VRel.ptr (esz := esz) 0 h4
      rw [h5, h6] at this
      exact this
    · cases h

theorem LI.od (h : LI P esz nt mask φ L env cur srcs a) {heap : Array Obj} (S : Sim esz φ (fun g => gl g = true) H heap) (x : Operand) (d : Opd) (k : odL gl srcs cur x d = true) : OR esz φ L env a x d := by
  have hs := h.srcOf x
  unfold odL at k
  intro v hv
  generalize Am.srcOf srcs x = s at hs k
  cases s <;> cases d <;> simp only [srOk] at k <;> first | (cases k; done) | skip
  · rename_i p j
    rw [beqN] at k
    exact hs.2 j v k hv
  · rename_i u t
    rw [beqN] at k
    subst k
    exact hs v hv
  · rename_i y v'
    cases hv
    rw [hs.1]
    exact cstOk_rel S k

theorem put_self {d : Nat} {v : Value} (hd : d < a.tmps.size) : (a.put (some d) v).eval (.tmp d) = v := by
  simp [Act.put, Act.eval, Array.getD_eq_getD_getElem?, hd]
theorem put_other {d : Nat} {v : Value} {x : Operand} (h : x ≠ .tmp d) : (a.put (some d) v).eval x = a.eval x :=
  Act.eval_put fun e he => by cases he; exact h
theorem put_size (d : Option Nat) (v : Value) : (a.put d v).tmps.size = a.tmps.size := by cases d <;> simp [Act.put]
theorem put_defers (d : Option Nat) (v : Value) : (a.put d v).defers = a.defers := by cases d <;> rfl

theorem look_kill {d t : Nat} {s : Sr} : ∀ {l : List (Nat × Sr)}, look t (kill d l) = some s → ∃ s0, look t l = some s0 ∧ s = killS d s0
  | [], h => by cases h
  | (u, s0) :: l, h => by
    simp only [kill, look] at h ⊢
    cases e : Nat.beq u t with
    | true => rw [e] at h; simp only [cond_true, Option.some.injEq] at h ⊢; exact ⟨s0, rfl, h.symm⟩
    | false => rw [e] at h; simp only [cond_false] at h ⊢; exact look_kill h

/-- a result is put down: the tmp d has it (kept: the slot d too) -/
theorem LI.result (h : LI P esz nt mask φ L env cur srcs a) (e : Ext φ φ') {d : Nat} {v : AVal} {v' : Value} (hv : VRel esz φ' v v') (hd : d < nt) (hm : Nat.testBit mask d = false) :
    LI P esz nt mask φ' (v :: L) env (cur + 1) ((d, .pos cur) :: srcs) (a.put (some d) v') where
  ev := fun t u hu => by
    obtain ⟨h1, h2⟩ := h.ev t u hu
    refine ⟨h1, ?_⟩
    rw [put_other (fun e => by cases e; rw [hm] at h1; cases h1)]
    exact h2.mono e
  size := by rw [put_size]; exact h.size
  defs := by rw [put_defers]; exact h.defs
  len := by simp [h.len]
  src := fun t s hs => by
    simp only [look] at hs
    by_cases ht : d = t
    · subst ht
      rw [bif_true (by rw [beqN])] at hs
      cases hs
      refine ⟨Nat.lt_succ_self _, fun j u hj hu => ?_⟩
      have : j = 0 := by omega
      subst this
      cases hu
      rw [put_self (Nat.lt_of_lt_of_le hd h.size)]
      exact hv
    · rw [bif_false (bool_false (by rw [beqN]; exact ht))] at hs
      have hk := h.src t s hs
      have hne : Operand.tmp t ≠ .tmp d := fun e => by cases e; exact ht rfl
      cases s with
      | pos p =>
        refine ⟨Nat.lt_succ_of_lt hk.1, fun j u hj hu => ?_⟩
        rw [put_other hne]
        have h1 := hk.1
        obtain ⟨j, rfl⟩ : ∃ j', j = j' + 1 := ⟨j - 1, by omega⟩
        exact (hk.2 j u (by omega) (by simpa using hu)).mono e
      | slot u => intro x hx; rw [put_other hne]; exact (hk x hx).mono e
      | cst y =>
        refine ⟨?_, hk.2⟩
        rw [put_other hne, put_other (hk.2 d)]
        exact hk.1
      | dead => trivial

theorem env_set {t d : Nat} {v u : AVal} (h : (env.set d v).get t = some u) : (t = d ∧ u = v) ∨ (t ≠ d ∧ env.get t = some u) := by
  rw [Trie.get_set] at h
  split at h
  · rename_i e; cases h; exact .inl ⟨e, rfl⟩
  · rename_i e; exact .inr ⟨e, h⟩

theorem LI.resultK (h : LI P esz nt mask φ L env cur srcs a) (e : Ext φ φ') {d : Nat} {v : AVal} {v' : Value} (hv : VRel esz φ' v v') (hd : d < nt) (hm : Nat.testBit mask d = true) :
    LI P esz nt mask φ' (v :: L) (env.set d v) (cur + 1) ((d, .pos cur) :: kill d srcs) (a.put (some d) v') where
  ev := fun t u hu => by
    rcases env_set hu with ⟨rfl, rfl⟩ | ⟨ht, hu⟩
    · rw [put_self (Nat.lt_of_lt_of_le hd h.size)]
      exact ⟨hm, hv⟩
    · obtain ⟨h1, h2⟩ := h.ev t u hu
      refine ⟨h1, ?_⟩
      rw [put_other (fun e => by cases e; exact ht rfl)]
      exact h2.mono e
  size := by rw [put_size]; exact h.size
  defs := by rw [put_defers]; exact h.defs
  len := by simp [h.len]
  src := fun t s hs => by
    simp only [look] at hs
    by_cases ht : d = t
    · subst ht
      rw [bif_true (by rw [beqN])] at hs
      cases hs
      refine ⟨Nat.lt_succ_self _, fun j u hj hu => ?_⟩
      have : j = 0 := by omega
      subst this
      cases hu
      rw [put_self (Nat.lt_of_lt_of_le hd h.size)]
      exact hv
    · rw [bif_false (bool_false (by rw [beqN]; exact ht))] at hs
      obtain ⟨s0, hs0, rfl⟩ := look_kill hs
      have hk := h.src t s0 hs0
      have hne : Operand.tmp t ≠ .tmp d := fun e => by cases e; exact ht rfl
      cases s0 with
      | pos p =>
        refine ⟨Nat.lt_succ_of_lt hk.1, fun j u hj hu => ?_⟩
        rw [put_other hne]
        have h1 := hk.1
        obtain ⟨j, rfl⟩ : ∃ j', j = j' + 1 := ⟨j - 1, by omega⟩
        exact (hk.2 j u (by omega) (by simpa using hu)).mono e
      | slot u =>
        simp only [killS]
        by_cases hud : u = d
        · rw [bif_true (by rw [beqN]; exact hud)]; trivial
        · rw [bif_false (bool_false (by rw [beqN]; exact hud))]
          intro x hx
          rcases env_set hx with ⟨e1, _⟩ | ⟨_, hx⟩
          · exact absurd e1 hud
          · rw [put_other hne]; exact (hk x hx).mono e
      | cst y =>
        refine ⟨?_, hk.2⟩
        rw [put_other hne, put_other (hk.2 d)]
        exact hk.1
      | dead => trivial

theorem LI.result0 (h : LI P esz nt mask φ L env cur srcs a) (e : Ext φ φ') {v : AVal} : LI P esz nt mask φ' (v :: L) env (cur + 1) srcs a where
  ev := (h.toEI.mono e).ev
  size := h.size
  defs := h.defs
  len := by simp [h.len]
  src := fun t s hs => by
    have hk := h.src t s hs
    cases s with
    | pos p =>
      refine ⟨Nat.lt_succ_of_lt hk.1, fun j u hj hu => ?_⟩
      have h1 := hk.1
      obtain ⟨j, rfl⟩ : ∃ j', j = j' + 1 := ⟨j - 1, by omega⟩
      exact (hk.2 j u (by omega) (by simpa using hu)).mono e
    | slot u => intro x hx; exact (hk x hx).mono e
    | cst y => exact hk
    | dead => trivial

/-- a move without a trace: the new tmp has the source of the old one -/
theorem LI.elide (h : LI P esz nt mask φ L env cur srcs a) {x : Operand} {d : Nat} (hd : d < nt) (hm : Nat.testBit mask d = false) :
    LI P esz nt mask φ L env cur ((d, Am.srcOf srcs x) :: srcs) (a.put (some d) (a.eval x)) where
  ev := fun t u hu => by
    obtain ⟨h1, h2⟩ := h.ev t u hu
    refine ⟨h1, ?_⟩
    rw [put_other (fun e => by cases e; rw [hm] at h1; cases h1)]
    exact h2
  size := by rw [put_size]; exact h.size
  defs := by rw [put_defers]; exact h.defs
  len := h.len
  src := fun t s hs => by
    have hself := put_self (a := a) (v := a.eval x) (Nat.lt_of_lt_of_le hd h.size)
    simp only [look] at hs
    by_cases ht : d = t
    · subst ht
      rw [bif_true (by rw [beqN])] at hs
      cases hs
      have hk := h.srcOf x
      generalize Am.srcOf srcs x = s at hk ⊢
      cases s with
      | pos p => refine ⟨hk.1, fun j u hj hu => ?_⟩; rw [hself]; exact hk.2 j u hj hu
      | slot u => intro y hy; rw [hself]; exact hk y hy
      | cst y => refine ⟨?_, hk.2⟩; rw [hself, put_other (hk.2 d)]; exact hk.1
      | dead => trivial
    · rw [bif_false (bool_false (by rw [beqN]; exact ht))] at hs
      have hk := h.src t s hs
      have hne : Operand.tmp t ≠ .tmp d := fun e => by cases e; exact ht rfl
      cases s with
      | pos p => refine ⟨hk.1, fun j u hj hu => ?_⟩; rw [put_other hne]; exact hk.2 j u hj hu
      | slot u => intro y hy; rw [put_other hne]; exact hk y hy
      | cst y =>
        refine ⟨?_, hk.2⟩
        rw [put_other hne, put_other (hk.2 d)]
        exact hk.1
      | dead => trivial

theorem LI.asg (h : LI P esz nt mask φ L env cur srcs a) {x : Operand} {d : Nat} {v : AVal} (hd : d < nt) (hm : Nat.testBit mask d = true) (hv : VRel esz φ v (a.eval x)) :
    LI P esz nt mask φ L (env.set d v) cur ((d, .slot d) :: kill d srcs) (a.put (some d) (a.eval x)) where
  ev := fun t u hu => by
    rcases env_set hu with ⟨rfl, rfl⟩ | ⟨ht, hu⟩
    · rw [put_self (Nat.lt_of_lt_of_le hd h.size)]
      exact ⟨hm, hv⟩
    · obtain ⟨h1, h2⟩ := h.ev t u hu
      refine ⟨h1, ?_⟩
      rw [put_other (fun e => by cases e; exact ht rfl)]
      exact h2
  size := by rw [put_size]; exact h.size
  defs := by rw [put_defers]; exact h.defs
  len := h.len
  src := fun t s hs => by
    simp only [look] at hs
    by_cases ht : d = t
    · subst ht
      rw [bif_true (by rw [beqN])] at hs
      cases hs
      intro u hu
      rcases env_set hu with ⟨_, rfl⟩ | ⟨ht, _⟩
      · rw [put_self (Nat.lt_of_lt_of_le hd h.size)]; exact hv
      · exact absurd rfl ht
    · rw [bif_false (bool_false (by rw [beqN]; exact ht))] at hs
      obtain ⟨s0, hs0, rfl⟩ := look_kill hs
      have hk := h.src t s0 hs0
      have hne : Operand.tmp t ≠ .tmp d := fun e => by cases e; exact ht rfl
      cases s0 with
      | pos p => refine ⟨hk.1, fun j u hj hu => ?_⟩; rw [put_other hne]; exact hk.2 j u hj hu
      | slot u =>
        simp only [killS]
        by_cases hud : u = d
        · rw [bif_true (by rw [beqN]; exact hud)]; trivial
        · rw [bif_false (bool_false (by rw [beqN]; exact hud))]
          intro x hx
          rcases env_set hx with ⟨e1, _⟩ | ⟨_, hx⟩
          · exact absurd e1 hud
          · rw [put_other hne]; exact hk x hx
      | cst y =>
        refine ⟨?_, hk.2⟩
        rw [put_other hne, put_other (hk.2 d)]
        exact hk.1
      | dead => trivial

theorem mvOf_some {o : Oper} {x : Operand} {d : Nat} (h : mvOf o = some (x, d)) : o.guard = none ∧ o.dst = some d ∧ ∀ ρ w, (execOp ρ o).run P w = .ok (.value (ρ x)) w := by
  unfold mvOf at h
  split at h
  · rename_i d' hg hd
    cases hop : o.op <;> rw [hop] at h <;> simp only at h <;> first | (cases h; done) | skip
    · cases h; exact ⟨hg, hd, fun ρ w => by simp [execOp, hop]⟩
    · cases h; exact ⟨hg, hd, fun ρ w => by simp [execOp, hop]⟩
  · cases h

theorem mv_wpOp {ops : Array Oper} {n : Nat} {o : Oper} {x : Operand} {d : Nat} (ho : ops[n]? = some o) (h : mvOf o = some (x, d)) {K : Go.Act → World → Prop} {Q : Exit → Go.Act → World → Prop}
    (hK : K (a.put (some d) (a.eval x)) w) : wpOp P ops Q n K a w := by
  obtain ⟨h1, h2, h3⟩ := mvOf_some (P := P) h
  unfold wpOp
  simp only [ho]
  rw [if_pos (by simp [Region.wanted, h1])]
  left
  unfold Oper.wp
  rw [h3, Oper.upon_value, h2]
  exact hK

theorem runIns_cons {call : CallT} {rc : AVal} {kp : AVal → EK} {i : Ins} {l : List Ins} {kn : EK} :
    runIns call rc kp (i :: l) L env H kn = insK call rc kp i L env H (fun L env H => runIns call rc kp l L env H kn) := rfl

theorem drop_cons {ops : Array Oper} {n : Nat} {o : Oper} {os : List Oper} (h : ops.toList.drop n = o :: os) : ops[n]? = some o ∧ ops.toList.drop (n + 1) = os := by
  constructor
  · have : (ops.toList.drop n)[0]? = some o := by rw [h]; rfl
    simpa using this
  · rw [← List.tail_drop, h]; rfl

theorem lock_run (hesz : ∀ t, esz t = P.cellsOf t) {ops : Array Oper} {np : Nat → Bool} {call : CallT} {rc : AVal} {kp : AVal → EK} {kn : EK} {Q : Exit → Go.Act → World → Prop}
    (hnp : ∀ g, np g = true → NopF P g) (hC : CallOK esz (fun g => gl g = true) P call) (hkp : ∀ v env H, kp v env H = false) :
    ∀ (os : List Oper) (n : Nat) (ins : List Ins) (srcs : List (Nat × Sr)) (cur : Nat) (φ : Phi) (L : List AVal) (env : Env) (H : AHeap) (a : Go.Act) (w : World),
    ops.toList.drop n = os → chkL P gl ops nt mask np os ins srcs cur = true → runIns call rc kp ins L env H kn = true → LI P esz nt mask φ L env cur srcs a →
    Sim esz φ (fun g => gl g = true) H w.heap → N ≤ H.next →
    (∀ φ' env' H' a' w', EI P esz nt mask φ' env' a' → Sim esz φ' (fun g => gl g = true) H' w'.heap → Step N φ H w φ' H' w' → kn env' H' = true → Q .normal a' w') →
    wpOps P ops Q (List.range' n os.length) a w := by
  intro os
  induction os with
  | nil =>
    intro n ins srcs cur φ L env H a w _ hc hr I S hN hQ
    cases ins with
    | nil => exact hQ _ _ _ _ _ I.toEI S (Step.refl ..) hr
    | cons i l => cases hc
  | cons o os ih =>
    intro n ins srcs cur φ L env H a w hd hc hr I S hN hQ
    obtain ⟨ho, hd'⟩ := drop_cons hd
    rw [List.length_cons, List.range'_succ, wpOps_cons]
    -- what follows an operation
    have gen : genL P gl ops nt mask (chkL P gl ops nt mask np os) o ins srcs cur = true → wpOp P ops Q n (wpOps P ops Q (List.range' (n + 1) os.length)) a w := by
      intro hc
      cases ins with
      | nil => cases hc
      | cons i ins' =>
        simp only [genL, Bool.and_eq_true] at hc
        obtain ⟨hc1, hc2⟩ := hc
        refine ins_wpOp hesz ho (hC.here S) hkp (fun x d k => I.od S x d k) hc1 (show insK call rc kp i L env H _ = true from hr) S hN ?_
        intro v v' φ' H' w' hk hv S' T
        have hN' : N ≤ H'.next := Nat.le_trans hN T.next
        have fin : ∀ φ2 env2 H2 a2 w2, EI P esz nt mask φ2 env2 a2 → Sim esz φ2 (fun g => gl g = true) H2 w2.heap → Step N φ' H' w' φ2 H2 w2 → kn env2 H2 = true → Q .normal a2 w2 :=
          fun φ2 env2 H2 a2 w2 h1 h2 h3 h4 => hQ _ _ _ _ _ h1 h2 (T.trans h3) h4
        cases hdst : o.dst with
        | none =>
          rw [hdst] at hc2
          exact ih _ _ _ _ _ _ _ _ _ _ hd' hc2 hk (I.result0 T.ext) S' hN' fin
        | some d =>
          rw [hdst] at hc2
          simp only [Bool.and_eq_true, bltN] at hc2
          obtain ⟨hlt, hc2⟩ := hc2
          cases hm : Nat.testBit mask d with
          | true =>
            rw [hm] at hc2
            simp only [cond_true] at hc2
            split at hc2
            · rename_i d' ins''
              simp only [Bool.and_eq_true, beqN] at hc2
              obtain ⟨rfl, hc2⟩ := hc2
              exact ih _ _ _ _ _ _ _ _ _ _ hd' hc2 hk (I.resultK T.ext hv hlt hm) S' hN' fin
            · cases hc2
          | false =>
            rw [hm] at hc2
            simp only [cond_false] at hc2
            exact ih _ _ _ _ _ _ _ _ _ _ hd' hc2 hk (I.result T.ext hv hlt hm) S' hN' fin
    have dfr : isDfr o.op = true → dfrL gl np (chkL P gl ops nt mask np os) o ins srcs cur = true → wpOp P ops Q n (wpOps P ops Q (List.range' (n + 1) os.length)) a w := by
      intro hdf hc
      unfold dfrL at hc
      split at hc
      · rename_i g as ins' _
        simp only [Bool.and_eq_true] at hc
        obtain ⟨hg, hgd, hod, hc⟩ := hc
        have hno : o.guard = none ∧ o.dst = none := by
          split at hgd
          · rename_i h1 h2; exact ⟨h1, h2⟩
          · cases hgd
        cases hop : o.op <;> rw [hop] at hdf <;> simp only [isDfr] at hdf <;> first | (cases hdf; done) | skip
        rename_i c
        cases hcl : c.callee <;> rw [hcl] at hdf <;> simp only at hdf <;> first | (cases hdf; done) | skip
        rename_i x
        have hargs : argsOf o.op = x :: c.args.toList := by rw [hop]; simp [argsOf, hcl]
        rw [hargs] at hod
        obtain ⟨vs, e1, e2⟩ := opds_true (show opds as L env _ = true from hr)
        have hrel := rels_of (all2_iff (fun x d k => I.od S x d k) hod) e1
        rw [List.map_cons] at hrel
        try simp only at e2
        split at e2
        · rename_i g' first cap vs'
          cases hb : Nat.beq g g' with
          | false => rw [hb] at e2; cases e2
          | true =>
            rw [hb] at e2
            simp only [cond_true] at e2
            rw [beqN] at hb
            subst hb
            cases hrel with
            | cons hf hvs =>
              generalize hx : a.eval x = u at hf
              cases hf with
              | @fn _ _ _ first' cap' ha hb =>
                unfold wpOp
                simp only [ho]
                rw [if_pos (by simp [Region.wanted, hno.1])]
                left
                have hrun : (execOp a.eval o).run P w = .ok (.defer { target := .fn (.func g) cap', args := first' ++ c.args.map a.eval }) w := by
                  simp [execOp, hop, resolve, hcl, hx, Deferred.ofValue]
                unfold Oper.wp
                rw [hrun, Oper.upon_defer, hno.2]
                have I' : LI P esz nt mask φ (.tup [] :: L) env (cur + 1) srcs { a with defers := { target := .fn (.func g) cap', args := first' ++ c.args.map a.eval } :: a.defers } := by
                  have I0 := I.result0 (v := .tup []) (Ext.refl φ)
                  exact { ev := I0.ev, size := I0.size, defs := fun d hd => (by
                    cases hd with
                    | head => exact ⟨g, cap', rfl, hnp g hg⟩
                    | tail _ hd => exact I0.defs d hd), len := I0.len, src := I0.src }
                exact ih _ _ _ _ _ _ _ _ _ _ hd' hc e2 I' S hN hQ
        · cases e2
      · cases hc
    simp only [chkL, Bool.or_eq_true] at hc
    rcases hc with hc | hc
    · exfalso
      unfold isPan at hc
      split at hc
      · rename_i x l
        obtain ⟨v, _, e⟩ := opd_true (show opd x L env _ = true from hr)
        try simp only at e
        split at e
        · rw [hkp] at e; cases e
        · cases e
      · cases hc
    · cases hdf : isDfr o.op with
      | true =>
        rw [hdf] at hc
        simp only [cond_true] at hc
        exact dfr hdf hc
      | false =>
      rw [hdf] at hc
      simp only [cond_false] at hc
      cases hmv : mvOf o with
      | none => rw [hmv] at hc; exact gen hc
      | some xd =>
        obtain ⟨x, d⟩ := xd
        rw [hmv] at hc
        simp only [movL] at hc
        have eli : Nat.testBit mask d = false → eliL nt (chkL P gl ops nt mask np os) x d ins srcs cur = true → wpOp P ops Q n (wpOps P ops Q (List.range' (n + 1) os.length)) a w := by
          intro hm hc
          simp only [eliL, Bool.and_eq_true, bltN] at hc
          exact mv_wpOp ho hmv (ih _ _ _ _ _ _ _ _ _ _ hd' hc.2 hr (I.elide hc.1 hm) S hN hQ)
        cases hm : Nat.testBit mask d with
        | true =>
          rw [hm] at hc
          simp only [cond_true] at hc
          split at hc
          · rename_i d' od ins'
            simp only [Bool.and_eq_true, beqN, bltN] at hc
            obtain ⟨⟨⟨rfl, hlt⟩, hod⟩, hc⟩ := hc
            obtain ⟨v, e1, e2⟩ := opd_true (show opd od L env _ = true from hr)
            exact mv_wpOp ho hmv (ih _ _ _ _ _ _ _ _ _ _ hd' hc e2 (I.asg hlt hm (I.od S x od hod v e1)) S hN hQ)
          · cases hc
        | false =>
          rw [hm] at hc
          simp only [cond_false] at hc
          split at hc
          · rename_i od l
            cases hod : odL gl srcs cur x od with
            | true => rw [hod] at hc; exact gen hc
            | false => rw [hod] at hc; exact eli hm hc
          · exact eli hm hc
end
end Go.Am
