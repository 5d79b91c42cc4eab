/-
  Regions whose order is drawn are run as by the model, whatever the order.
-/
import Derived.Test.YtcaajeajakbooaaGreatDoorAmReg
set_option linter.unusedVariables false
set_option linter.unusedSimpArgs false
namespace Go.Am
open Go

/-! ### regions whose order is drawn -/
def memN (i : Nat) : List Nat → Bool
  | [] => false
  | j :: l => Nat.beq i j || memN i l
theorem memN_iff {i : Nat} : ∀ {l : List Nat}, memN i l = true ↔ i ∈ l
  | [] => by simp [memN]
  | j :: l => by simp [memN, memN_iff (l := l), Bool.or_eq_true, beqN]

def befOne (acc : List Nat) (es : List Edge) : Nat :=
  match es with
  | [] => 0
  | e :: es => bif Region.binds .any e then Nat.lor (Nat.lor (2 ^ e.on) (acc.getD e.on 0)) (befOne acc es) else befOne acc es
def befs : List Oper → List Nat → List Nat
  | [], acc => acc
  | o :: os, acc => befs os (acc ++ [befOne acc o.after.toList])

theorem befOne_spec {acc : List Nat} {j : Nat} : ∀ {es : List Edge}, Nat.testBit (befOne acc es) j = true → ∃ e ∈ es, Region.binds .any e = true ∧ (e.on = j ∨ Nat.testBit (acc.getD e.on 0) j = true)
  | [], h => by simp [befOne] at h
  | e :: es, h => by
    simp only [befOne] at h
    cases hb : Region.binds .any e with
    | false =>
      rw [hb] at h
      obtain ⟨e', h1, h2⟩ := befOne_spec (es := es) h
      exact ⟨e', List.mem_cons_of_mem _ h1, h2⟩
    | true =>
      rw [hb] at h
      simp only [cond_true] at h
      have h' : Nat.testBit (((2 ^ e.on) ||| (acc.getD e.on 0)) ||| (befOne acc es)) j = true := h
      rw [Nat.testBit_or, Nat.testBit_or, Bool.or_eq_true, Bool.or_eq_true] at h'
      rcases h' with (h1 | h1) | h1
      · refine ⟨e, List.mem_cons_self .., hb, .inl ?_⟩
        rw [Nat.testBit_two_pow] at h1
        simpa using h1
      · exact ⟨e, List.mem_cons_self .., hb, .inr h1⟩
      · obtain ⟨e', h1, h2⟩ := befOne_spec (es := es) h1
        exact ⟨e', List.mem_cons_of_mem _ h1, h2⟩

theorem befs_spec : ∀ (os : List Oper) (acc : List Nat), ∃ r, befs os acc = acc ++ r ∧ ∀ m o, os[m]? = some o → (befs os acc).getD (acc.length + m) 0 = befOne ((befs os acc).take (acc.length + m)) o.after.toList
  | [], acc => ⟨[], by simp [befs], fun m o h => by simp at h⟩
  | o :: os, acc => by
    obtain ⟨r, h1, h2⟩ := befs_spec os (acc ++ [befOne acc o.after.toList])
    simp only [befs]
    refine ⟨befOne acc o.after.toList :: r, by rw [h1]; simp, fun m o' hm => ?_⟩
    cases m with
    | zero =>
      simp at hm; subst hm
      rw [h1]
      simp [List.getD_eq_getElem?_getD]
    | succ m =>
      have := h2 m o' (by simpa using hm)
      simp only [List.length_append, List.length_cons, List.length_nil] at this
      rw [show acc.length + (m + 1) = acc.length + (0 + 1) + m by omega]
      exact this

section
variable (P : Program) (gl : Nat → Bool) (ops : Array Oper) (B : List Nat) (nt mask : Nat)

def dstO (i : Nat) : Option Nat := (ops[i]?).bind (·.dst)
def dstIs (i t : Nat) : Bool := match dstO ops i with | some u => Nat.beq u t | none => false
def bef (i j : Nat) : Bool := Nat.testBit (B.getD i 0) j
def noW (t : Nat) : List Nat → Bool
  | [] => true
  | j :: A => !dstIs ops j t && noW t A
def lateW (i t : Nat) : Nat → Bool
  | 0 => true
  | n + 1 => (!dstIs ops n t || (Nat.beq n i || bef B n i)) && lateW i t n
def noWn (t : Nat) : Nat → Bool
  | 0 => true
  | n + 1 => !dstIs ops n t && noWn t n
def oneW : Nat → Bool
  | 0 => true
  | n + 1 => (match dstO ops n with | some t => noWn ops t n | none => true) && oneW n
def odD (i : Nat) (A : List Nat) (x : Operand) (d : Opd) : Bool :=
  match x with
  | .tmp t => (match d with
    | .loc j => (match A[j]? with | some i' => dstIs ops i' t && bef B i i' | none => false)
    | .slot u => Nat.beq u t && (noW ops t A && lateW ops B i t ops.size)
    | .lit _ => false)
  | x => (match d with | .lit v => cstOk gl x v | _ => false)
/-- an operation that stands in the one order of all such operations -/
def chOp (o : Op) : Bool :=
  match o with
  | .store .. | .mapUpdate .. | .mapEntry .. | .entryStore .. | .next .. | .defer .. | .panic .. | .go .. | .insert .. => true
  | .call c => (match c.callee with
    | .builtin b => (match b with | .len => false | .cap => false | .min => false | .max => false | .unsafeSliceData => false | _ => true)
    | _ => true)
  | _ => false
def chn (i : Nat) : Bool := match ops[i]? with | some o => chOp o.op | none => false
def isFl (k : K) : Bool :=
  match k with
  | .store _ | .mset _ | .ment .. | .mst | .nxtS | .app .. | .copy _ | .del _ | .unsStr _ | .noZero _ => false
  | _ => true
def isRdK (k : K) : Bool :=
  match k with
  | .load1 | .loadN _ | .look .. | .lenM => true
  | .conv c => (match c with | .ptrUns _ | .unsPtr .. | .strOfBytes => true | _ => false)
  | _ => false
def flIns (i : Ins) : Bool :=
  match i with
  | .op k _ => isFl k
  | .gd _ _ i => (match i with | .op k _ => isFl k | _ => false)
  | _ => false
def rdIns (i : Ins) : Bool :=
  match i with
  | .op k _ => isRdK k
  | .gd _ _ i => (match i with | .op k _ => isRdK k | _ => false)
  | _ => false
def chkOk (A : List Nat) (r : Nat) (i : Ins) : Bool :=
  match ops[r]? with
  | none => false
  | some o =>
    match o.guard, i with
    | none, .chk k as j => (match A[j]? with | some r' => Nat.beq r' r | none => false) && okK P o.op k && all2 (odD gl ops B r A) (argsOf o.op) as
    | some (g, want), .gchk gd want' k as j =>
      eqBool want want' && (match dstO ops g with | some t => odD gl ops B r A (.tmp t) gd | none => false) &&
      (match A[j]? with | some r' => Nat.beq r' r | none => false) && okK P o.op k && all2 (odD gl ops B r A) (argsOf o.op) as
    | _, _ => false
def chks (A : List Nat) : List Nat → List Ins → Option (List Ins)
  | [], l => some l
  | r :: rs, i :: l => bif chkOk P gl ops B A r i then chks A rs l else none
  | _ :: _, [] => none
def keepD (o : Oper) (l : List Ins) : Option (List Ins) :=
  match o.dst with
  | none => some l
  | some d => bif Nat.blt d nt then (bif Nat.testBit mask d then (match l with | .keep d' :: l' => (bif Nat.beq d d' then some l' else none) | _ => none) else some l) else none
def filtB (i : Nat) : List Nat → List Nat
  | [] => []
  | r :: R => bif bef B i r then filtB i R else r :: filtB i R
def chkD : List Nat → List Ins → List Nat → List Nat → Bool
  | [], l, _, _ => l.isEmpty
  | i :: p, l, A, R =>
    match ops[i]?, l with
    | some o, ins :: l' =>
      okG P ops (odD gl ops B i A) o ins && (isPan l || (bif chn ops i then
        (match keepD nt mask o l' with
          | some l'' => (match chks P gl ops B (i :: A) (filtB B i R) l'' with | some l3 => chkD p l3 (i :: A) (filtB B i R) | none => false)
          | none => false)
      else flIns ins && (match keepD nt mask o l' with
          | some l'' => chkD p l'' (i :: A) (bif rdIns ins then i :: R else R)
          | none => false)))
    | _, _ => false
def edgesIn (A : List Nat) : List Edge → Bool
  | [] => true
  | e :: es => (!Region.binds .any e || memN e.on A) && edgesIn A es
def permOk : List Nat → List Nat → Option Nat → Bool
  | [], _, _ => true
  | i :: p, A, lc =>
    (match ops[i]? with | some o => edgesIn A o.after.toList | none => false) && !memN i A && (match lc with | some c => bef B i c | none => true) &&
      permOk p (i :: A) (bif chn ops i then some i else lc)
def cover (p : List Nat) : Nat → Bool
  | 0 => true
  | n + 1 => memN n p && cover p n
def chkR (perm : List Nat) (l : List Ins) : Bool :=
  permOk ops B perm [] none && cover perm ops.size && oneW ops ops.size && chkD P gl ops B nt mask perm l [] []
end

section
variable {esz : TypeId → Nat} {gl : Nat → Bool} {P : Program} {ops : Array Oper} {B : List Nat} {N nt mask : Nat}

theorem dstIs_iff {i t : Nat} : dstIs ops i t = true ↔ dstO ops i = some t := by
  unfold dstIs
  cases dstO ops i with
  | none => simp
  | some u => simp [beqN]
theorem noW_iff {t : Nat} : ∀ {A : List Nat}, noW ops t A = true → ∀ j ∈ A, dstO ops j ≠ some t
  | [], _, j, hj => by cases hj
  | i :: A, h, j, hj => by
    simp only [noW, Bool.and_eq_true, Bool.not_eq_true'] at h
    cases hj with
    | head => intro e; rw [dstIs_iff.2 e] at h; cases h.1
    | tail _ hj => exact noW_iff h.2 j hj
theorem dstO_lt {i t : Nat} (h : dstO ops i = some t) : i < ops.size := by
  rcases Nat.lt_or_ge i ops.size with e | e
  · exact e
  · simp [dstO, Array.getElem?_eq_none e] at h
theorem lateW_iff {i t : Nat} : ∀ {n : Nat}, lateW ops B i t n = true → ∀ j, j < n → dstO ops j = some t → j = i ∨ bef B j i = true
  | 0, _, j, hj, _ => by omega
  | n + 1, h, j, hj, hd => by
    simp only [lateW, Bool.and_eq_true, Bool.or_eq_true, Bool.not_eq_true', beqN] at h
    by_cases e : j = n
    · subst e
      rw [dstIs_iff.2 hd] at h
      simpa using h.1
    · exact lateW_iff h.2 j (by omega) hd
theorem noWn_iff {t : Nat} : ∀ {n : Nat}, noWn ops t n = true → ∀ j, j < n → dstO ops j ≠ some t
  | 0, _, j, hj => by omega
  | n + 1, h, j, hj => by
    simp only [noWn, Bool.and_eq_true, Bool.not_eq_true'] at h
    by_cases e : j = n
    · subst e; intro e; rw [dstIs_iff.2 e] at h; cases h.1
    · exact noWn_iff h.2 j (by omega)
theorem oneW_iff {t : Nat} : ∀ {n : Nat}, oneW ops n = true → ∀ i j, i < n → j < n → dstO ops i = some t → dstO ops j = some t → i = j
  | 0, _, i, j, hi, _, _, _ => by omega
  | n + 1, h, i, j, hi, hj, di, dj => by
    simp only [oneW, Bool.and_eq_true] at h
    obtain ⟨h1, h2⟩ := h
    by_cases ei : i = n
    · by_cases ej : j = n
      · omega
      · subst ei
        rw [di] at h1
        exact absurd dj (noWn_iff h1 j (by omega))
    · by_cases ej : j = n
      · subst ej
        rw [dj] at h1
        exact absurd di (noWn_iff h1 i (by omega))
      · exact oneW_iff h2 i j (by omega) (by omega) di dj

/-- the AM's result of an operation -/
def res (A : List Nat) (L : List AVal) (i : Nat) (v : AVal) : Prop := ∃ j : Nat, A[j]? = some i ∧ L[j]? = some v
theorem res.cons {A : List Nat} {L : List AVal} {i i' : Nat} {v v' : AVal} (h : res A L i v) : res (i' :: A) (v' :: L) i v := by
  obtain ⟨j, h1, h2⟩ := h
  exact ⟨j + 1, by simpa using h1, by simpa using h2⟩
theorem res.head {A : List Nat} {L : List AVal} {i : Nat} {v : AVal} : res (i :: A) (v :: L) i v := ⟨0, rfl, rfl⟩
theorem res.mem {A : List Nat} {L : List AVal} {i : Nat} {v : AVal} (h : res A L i v) : i ∈ A := by
  obtain ⟨j, h1, _⟩ := h; exact List.mem_of_getElem? h1
theorem res.of_cons {A : List Nat} {L : List AVal} {i i' : Nat} {v v' : AVal} (h : res (i' :: A) (v' :: L) i v) : (i = i' ∧ v = v') ∨ res A L i v := by
  obtain ⟨j, h1, h2⟩ := h
  cases j with
  | zero => simp at h1 h2; exact .inl ⟨h1.symm, h2.symm⟩
  | succ j => exact .inr ⟨j, by simpa using h1, by simpa using h2⟩
theorem res.uniq {A : List Nat} {L : List AVal} {i : Nat} {v v' : AVal} (hn : A.Nodup) (h : res A L i v) (k : res A L i v') : v = v' := by
  obtain ⟨j, h1, h2⟩ := h
  obtain ⟨j', k1, k2⟩ := k
  obtain ⟨hj, ej⟩ := List.getElem?_eq_some_iff.1 h1
  obtain ⟨hj', ej'⟩ := List.getElem?_eq_some_iff.1 k1
  have : j = j' := by
    rcases Nat.lt_trichotomy j j' with h | h | h
    · exact absurd (ej.trans ej'.symm) (List.pairwise_iff_getElem.1 hn j j' hj hj' h)
    · exact h
    · exact absurd (ej'.trans ej.symm) (List.pairwise_iff_getElem.1 hn j' j hj' hj h)
  subst this
  rw [h2] at k2; cases k2; rfl
theorem res.ex {A : List Nat} {L : List AVal} {i : Nat} (hl : A.length = L.length) (h : i ∈ A) : ∃ v, res A L i v := by
  obtain ⟨j, hj, e⟩ := List.getElem_of_mem h
  exact ⟨L[j]'(by omega), j, by rw [List.getElem?_eq_getElem hj, e], by rw [List.getElem?_eq_getElem (by omega)]⟩

/-- the value of an operand of the operation i -/
def OpVal (gl : Nat → Bool) (ops : Array Oper) (B : List Nat) (env0 : Env) (A : List Nat) (L : List AVal) (i : Nat) (x : Operand) (v : AVal) : Prop :=
  match x with
  | .tmp t => (∃ j, bef B i j = true ∧ dstO ops j = some t ∧ res A L j v) ∨ ((∀ j, dstO ops j = some t → j = i ∨ bef B j i = true) ∧ env0.get t = some v)
  | x => cstOk gl x v = true
theorem OpVal.cons {env0 : Env} {A : List Nat} {L : List AVal} {i i' : Nat} {v v' : AVal} {x : Operand} (h : OpVal gl ops B env0 A L i x v) : OpVal gl ops B env0 (i' :: A) (v' :: L) i x v := by
  cases x with
  | tmp t =>
    rcases h with ⟨j, h1, h2, h3⟩ | h
    · exact .inl ⟨j, h1, h2, h3.cons⟩
    · exact .inr h
  | const u => exact h
  | global g => exact h
  | func f => exact h

def FAct (N : Nat) (φ : Phi) (H : AHeap) (R T : List Nat) (PH : Nat → Nat → Prop) (i : Nat) (k : K) (vs : List AVal) (v : AVal) : Prop :=
  actK k vs = .val v ∨ (∃ f, actK k vs = .rd f ∧ i ∈ R ∧ (i ∉ T → f H = some v)) ∨
  (∃ vf ob x, actK k vs = .new vf ob ∧ v = vf x ∧ N ≤ x ∧ x < H.next ∧ H.objs.get x = some (ob x) ∧ φ x = none ∧ H.grps.get x = none ∧ PH i x)
def Core (gl : Nat → Bool) (P : Program) (ops : Array Oper) (B : List Nat) (N : Nat) (env0 : Env) (φ : Phi) (H : AHeap) (A : List Nat) (L : List AVal) (R T : List Nat) (PH : Nat → Nat → Prop) (i : Nat) (o : Oper) (v : AVal) : Prop :=
  ∃ k vs, okK P o.op k = true ∧ All2 (OpVal gl ops B env0 A L i) (argsOf o.op) vs ∧ FAct N φ H R T PH i k vs v
def Pend (gl : Nat → Bool) (P : Program) (ops : Array Oper) (B : List Nat) (N : Nat) (env0 : Env) (φ : Phi) (H : AHeap) (A : List Nat) (L : List AVal) (R T : List Nat) (PH : Nat → Nat → Prop) (i : Nat) : Prop :=
  ∃ o v, ops[i]? = some o ∧ res A L i v ∧
    ((o.guard = none ∧ Core gl P ops B N env0 φ H A L R T PH i o v) ∨
     (∃ g want t u, o.guard = some (g, want) ∧ dstO ops g = some t ∧ OpVal gl ops B env0 A L i (.tmp t) u ∧
       ((u = .bool want ∧ Core gl P ops B N env0 φ H A L R T PH i o v) ∨ ((∃ b, u = .bool b ∧ b ≠ want) ∧ v = .tup []) ∨ ((∃ cs, u = .tup cs) ∧ v = .tup []))))

theorem FAct.imp {φ φ' : Phi} {H H' : AHeap} {R R' T T' : List Nat} {PH PH' : Nat → Nat → Prop} {i : Nat} {k : K} {vs : List AVal} {v : AVal} (h : FAct N φ H R T PH i k vs v)
    (hr : ∀ f, actK k vs = .rd f → i ∈ R → (i ∉ T → f H = some v) → i ∈ R' ∧ (i ∉ T' → f H' = some v))
    (hn : ∀ x ob, N ≤ x → x < H.next → H.objs.get x = some ob → φ x = none → H.grps.get x = none → PH i x → x < H'.next ∧ H'.objs.get x = some ob ∧ φ' x = none ∧ H'.grps.get x = none ∧ PH' i x) :
    FAct N φ' H' R' T' PH' i k vs v := by
  rcases h with h | ⟨f, h1, h2, h3⟩ | ⟨vf, ob, x, h1, h2, h3, h4, h5, h6, h7, h8⟩
  · exact .inl h
  · exact .inr (.inl ⟨f, h1, hr f h1 h2 h3⟩)
  · obtain ⟨k1, k2, k3, k4, k5⟩ := hn x _ h3 h4 h5 h6 h7 h8
    exact .inr (.inr ⟨vf, ob, x, h1, h2, h3, k1, k2, k3, k4, k5⟩)
theorem Pend.imp {env0 : Env} {φ φ' : Phi} {H H' : AHeap} {A A' : List Nat} {L L' : List AVal} {R R' T T' : List Nat} {PH PH' : Nat → Nat → Prop} {i : Nat}
    (h : Pend gl P ops B N env0 φ H A L R T PH i) (hA : ∀ j v, res A L j v → res A' L' j v)
    (hr : ∀ k vs v f, actK k vs = .rd f → i ∈ R → (i ∉ T → f H = some v) → i ∈ R' ∧ (i ∉ T' → f H' = some v))
    (hn : ∀ x ob, N ≤ x → x < H.next → H.objs.get x = some ob → φ x = none → H.grps.get x = none → PH i x → x < H'.next ∧ H'.objs.get x = some ob ∧ φ' x = none ∧ H'.grps.get x = none ∧ PH' i x) :
    Pend gl P ops B N env0 φ' H' A' L' R' T' PH' i := by
  have hov : ∀ x v, OpVal gl ops B env0 A L i x v → OpVal gl ops B env0 A' L' i x v := by
    intro x v h
    cases x with
    | tmp t =>
      rcases h with ⟨j, h1, h2, h3⟩ | h
      · exact .inl ⟨j, h1, h2, hA _ _ h3⟩
      · exact .inr h
    | const u => exact h
    | global g => exact h
    | func f => exact h
  have hcore : ∀ o v, Core gl P ops B N env0 φ H A L R T PH i o v → Core gl P ops B N env0 φ' H' A' L' R' T' PH' i o v := by
    rintro o v ⟨k, vs, h1, h2, h3⟩
    exact ⟨k, vs, h1, h2.imp hov, h3.imp (hr k vs v) hn⟩
  obtain ⟨o, v, h1, h2, h3⟩ := h
  refine ⟨o, v, h1, hA _ _ h2, ?_⟩
  rcases h3 with ⟨h3, h4⟩ | ⟨g, want, t, u, h3, h4, h5, h6⟩
  · exact .inl ⟨h3, hcore _ _ h4⟩
  · refine .inr ⟨g, want, t, u, h3, h4, hov _ _ h5, ?_⟩
    rcases h6 with ⟨h6, h7⟩ | h6 | h6
    · exact .inl ⟨h6, hcore _ _ h7⟩
    · exact .inr (.inl h6)
    · exact .inr (.inr h6)

/-- where the program stands behind some operations (D), the AM behind these and more (A) -/
structure DI (esz : TypeId → Nat) (gl : Nat → Bool) (P : Program) (ops : Array Oper) (B : List Nat) (N nt mask : Nat) (φ0 : Phi) (H0 : AHeap) (w0 : World) (env0 : Env) (a0 : Go.Act)
    (D : Nat → Prop) (φ : Phi) (H : AHeap) (env : Env) (a : Go.Act) (w : World) (A : List Nat) (L : List AVal) (R T : List Nat) (PH : Nat → Nat → Prop) : Prop where
  sim : Sim esz φ (fun g => gl g = true) H w.heap
  st : Step N φ0 H0 w0 φ H w
  nx : N ≤ H0.next
  len : A.length = L.length
  nodup : A.Nodup
  da : ∀ i, D i → i ∈ A
  cl : ∀ i, D i → ∀ j, bef B i j = true → D j
  ch : ∀ i, i ∈ A → chn ops i = true → D i
  val : ∀ i d v, D i → dstO ops i = some d → res A L i v → VRel esz φ v (a.eval (.tmp d))
  old : ∀ t, (∀ i, D i → dstO ops i ≠ some t) → a.eval (.tmp t) = a0.eval (.tmp t)
  e0 : ∀ t v, env0.get t = some v → VRel esz φ v (a0.eval (.tmp t))
  env : ∀ t v, env.get t = some v → Nat.testBit mask t = true ∧ ((∃ i, dstO ops i = some t ∧ res A L i v) ∨ ((∀ i, i ∈ A → dstO ops i ≠ some t) ∧ env0.get t = some v))
  size : nt ≤ a.tmps.size
  defs : ∀ d ∈ a.defers, NopD P d
  dfs : a.defers = a0.defers
  pend : ∀ i, i ∈ A → ¬ D i → Pend gl P ops B N env0 φ H A L R T PH i
  inj : ∀ i j x, PH i x → PH j x → i = j
  phlt : ∀ i x, PH i x → x < H.next

section
variable {φ0 : Phi} {H0 : AHeap} {w0 : World} {env0 : Env} {a0 : Go.Act} {D : Nat → Prop} {φ : Phi} {H : AHeap} {env : Env} {a : Go.Act} {w : World} {A : List Nat} {L : List AVal} {R T : List Nat} {PH : Nat → Nat → Prop}

theorem DI.opval (I : DI esz gl P ops B N nt mask φ0 H0 w0 env0 a0 D φ H env a w A L R T PH) {i : Nat} {x : Operand} {v : AVal} (h : OpVal gl ops B env0 A L i x v) (hb : ∀ j, bef B i j = true → D j) (hi : ¬ D i) :
    VRel esz φ v (a.eval x) := by
  cases x with
  | tmp t =>
    rcases h with ⟨j, h1, h2, h3⟩ | ⟨h1, h2⟩
    · exact I.val j t v (hb j h1) h2 h3
    · rw [I.old t]
      · exact I.e0 t v h2
      · intro j hj e
        rcases h1 j e with rfl | h1
        · exact hi hj
        · exact hi (I.cl j hj i h1)
  | const u => exact cstOk_rel I.sim h
  | global g => exact cstOk_rel I.sim h
  | func f => exact cstOk_rel I.sim h
theorem DI.odD (I : DI esz gl P ops B N nt mask φ0 H0 w0 env0 a0 D φ H env a w A L R T PH) {i : Nat} {x : Operand} {d : Opd} (h : odD gl ops B i A x d = true) {v : AVal} (hv : evalO d L env = some v) :
    OpVal gl ops B env0 A L i x v := by
  cases x with
  | tmp t =>
    simp only [Am.odD] at h
    cases d with
    | loc j =>
      simp only at h
      split at h
      · rename_i i' e
        rw [Bool.and_eq_true] at h
        exact .inl ⟨i', h.2, dstIs_iff.1 h.1, j, e, hv⟩
      · cases h
    | slot u =>
      simp only [Bool.and_eq_true, beqN] at h
      obtain ⟨rfl, h1, h2⟩ := h
      refine .inr ⟨fun j hj => lateW_iff h2 j (dstO_lt hj) hj, ?_⟩
      rcases (I.env u v hv).2 with ⟨i', h3, h4⟩ | h3
      · exact absurd h3 (noW_iff h1 i' h4.mem)
      · exact h3.2
    | lit v => cases h
  | const u => simp only [Am.odD] at h; split at h <;> first | (cases hv; exact h) | cases h
  | global g => simp only [Am.odD] at h; split at h <;> first | (cases hv; exact h) | cases h
  | func f => simp only [Am.odD] at h; split at h <;> first | (cases hv; exact h) | cases h
theorem DI.args (I : DI esz gl P ops B N nt mask φ0 H0 w0 env0 a0 D φ H env a w A L R T PH) {i : Nat} : ∀ {xs : List Operand} {as : List Opd} {vs : List AVal}, all2 (Am.odD gl ops B i A) xs as = true →
    All2 (fun x v => evalO x L env = some v) as vs → All2 (OpVal gl ops B env0 A L i) xs vs
  | [], [], vs, _, h => by cases h; exact .nil
  | [], _ :: _, _, h, _ => by cases h
  | _ :: _, [], _, h, _ => by cases h
  | x :: xs, d :: as, vs, h, k => by
    simp only [all2, Bool.and_eq_true] at h
    cases k with
    | cons k1 k2 => exact .cons (I.odD h.1 k1) (DI.args I h.2 k2)
theorem DI.rels (I : DI esz gl P ops B N nt mask φ0 H0 w0 env0 a0 D φ H env a w A L R T PH) {i : Nat} (hb : ∀ j, bef B i j = true → D j) (hi : ¬ D i) : ∀ {xs : List Operand} {vs : List AVal},
    All2 (OpVal gl ops B env0 A L i) xs vs → VRels esz φ vs (xs.map a.eval)
  | [], vs, h => by cases h; exact .nil
  | x :: xs, vs, h => by
    cases h with
    | cons h1 h2 => exact .cons (I.opval h1 hb hi) (DI.rels I hb hi h2)
end
end
end Go.Am

namespace Go.Am
open Go

theorem veqL_eq {f : AVal → AVal → Bool} (hf : ∀ a b, f a b = true → a = b) : ∀ l m, veqL f l m = true → l = m
  | [], [], _ => rfl
  | [], _ :: _, h => by cases h
  | _ :: _, [], h => by cases h
  | a :: x, b :: y, h => by
    simp only [veqL, Bool.and_eq_true] at h
    rw [hf a b h.1, veqL_eq hf x y h.2]
theorem veq_eq : ∀ (n : Nat) (v u : AVal), veq n v u = true → v = u := by
  intro n
  induction n with
  | zero => intro v u h; cases h
  | succ n ih =>
    intro v u h
    have hl : ∀ l m, veqL (veq n) l m = true → l = m := veqL_eq ih
    unfold veq at h
    split at h
    · rw [eqBool_iff] at h; rw [h]
    · rw [Bool.and_eq_true, eqKind_iff, eqInt_iff] at h; rw [h.1, h.2]
    · rw [eqStr_iff] at h; rw [h]
    · rfl
    · rw [Bool.and_eq_true, beqN, beqN] at h; rw [h.1, h.2]
    · rfl
    · simp only [Bool.and_eq_true, beqN] at h
      obtain ⟨⟨⟨⟨rfl, rfl⟩, rfl⟩, rfl⟩, rfl⟩ := h; rfl
    · rfl
    · rw [beqN] at h; rw [h]
    · simp only [Bool.and_eq_true, beqN] at h
      obtain ⟨⟨rfl, h2⟩, h3⟩ := h; rw [hl _ _ h2, hl _ _ h3]
    · rfl
    · rw [Bool.and_eq_true, beqN] at h; rw [h.1, ih _ _ h.2]
    · rfl
    · rw [hl _ _ h]
    · rw [hl _ _ h]
    · cases h

theorem live_newObj {H : AHeap} {i : Nat} {x : List AVal × TypeId × Nat} {ob : AObj} (hf : ∀ i, H.next ≤ i → H.objs.get i = none) (h : H.live i = some x) : (H.newObj ob).live i = some x := by
  obtain ⟨cs, e, g⟩ := x
  obtain ⟨v, h1, h2⟩ := live_some h
  have hi : i ≠ H.next := by intro e; subst e; rw [hf _ (Nat.le_refl _)] at h1; cases h1
  have : (H.newObj ob).objs.get i = H.objs.get i := by rw [newObj_objs, if_neg hi]
  unfold AHeap.live at h ⊢
  rw [this]
  simp only [grp_newObj]
  exact h
theorem get_newObj {H : AHeap} {i : Nat} {o ob : AObj} (hf : ∀ i, H.next ≤ i → H.objs.get i = none) (h : H.objs.get i = some o) : (H.newObj ob).objs.get i = some o := by
  have hi : i ≠ H.next := by intro e; subst e; rw [hf _ (Nat.le_refl _)] at h; cases h
  rw [newObj_objs, if_neg hi]; exact h
theorem cell_newObj {H : AHeap} {i o : Nat} {v : AVal} {ob : AObj} (hf : ∀ i, H.next ≤ i → H.objs.get i = none) (h : H.cell i o = some v) : (H.newObj ob).cell i o = some v := by
  unfold AHeap.cell at h ⊢
  cases e : H.live i with
  | none => rw [e] at h; cases h
  | some x => rw [live_newObj hf e]; rw [e] at h; exact h
theorem cellsAt_newObj {H : AHeap} {i o n : Nat} {l : List AVal} {ob : AObj} (hf : ∀ i, H.next ≤ i → H.objs.get i = none) (h : H.cellsAt i o n = some l) : (H.newObj ob).cellsAt i o n = some l := by
  unfold AHeap.cellsAt at h ⊢
  cases e : H.live i with
  | none => rw [e] at h; cases h
  | some x => rw [live_newObj hf e]; rw [e] at h; exact h

theorem rd_mono {k : K} {vs : List AVal} {f : AHeap → Option AVal} {H : AHeap} {v : AVal} {ob : AObj} (ha : actK k vs = .rd f) (hf : ∀ i, H.next ≤ i → H.objs.get i = none) (h : f H = some v) :
    f (H.newObj ob) = some v ∧ isRdK k = true := by
  cases k with
  | mov  => exact absurd (okV_Mov  vs) (by rw [show aMov  vs = _ from ha]; simp [Act.okV])
  | pick  => exact absurd (okV_Pick  vs) (by rw [show aPick  vs = _ from ha]; simp [Act.okV])
  | build z ps => exact absurd (okV_Build z ps vs) (by rw [show aBuild z ps vs = _ from ha]; simp [Act.okV])
  | nilChk  => exact absurd (okV_NilChk  vs) (by rw [show aNilChk  vs = _ from ha]; simp [Act.okV])
  | bin op e => exact absurd (okV_Bin op e vs) (by rw [show aBin op e vs = _ from ha]; simp [Act.okV])
  | un op => exact absurd (okV_Un op vs) (by rw [show aUn op vs = _ from ha]; simp [Act.okV])
  | ifc t => exact absurd (okV_Ifc t vs) (by rw [show aIfc t vs = _ from ha]; simp [Act.okV])
  | clos f n => exact absurd (okV_Clos f n vs) (by rw [show aClos f n vs = _ from ha]; simp [Act.okV])
  | slS lo hi => exact absurd (okV_SlS lo hi vs) (by rw [show aSlS lo hi vs = _ from ha]; simp [Act.okV])
  | slE s lo hi mx => exact absurd (okV_SlE s lo hi mx vs) (by rw [show aSlE s lo hi mx vs = _ from ha]; simp [Act.okV])
  | slA n s lo hi => exact absurd (okV_SlA n s lo hi vs) (by rw [show aSlA n s lo hi vs = _ from ha]; simp [Act.okV])
  | fadr off => exact absurd (okV_Fadr off vs) (by rw [show aFadr off vs = _ from ha]; simp [Act.okV])
  | fld off n => exact absurd (okV_Fld off n vs) (by rw [show aFld off n vs = _ from ha]; simp [Act.okV])
  | iadrS s => exact absurd (okV_IadrS s vs) (by rw [show aIadrS s vs = _ from ha]; simp [Act.okV])
  | iadrA l s => exact absurd (okV_IadrA l s vs) (by rw [show aIadrA l s vs = _ from ha]; simp [Act.okV])
  | idxS  => exact absurd (okV_IdxS  vs) (by rw [show aIdxS  vs = _ from ha]; simp [Act.okV])
  | idxA l s n => exact absurd (okV_IdxA l s n vs) (by rw [show aIdxA l s n vs = _ from ha]; simp [Act.okV])
  | tas t z ok => exact absurd (okV_Tas t z ok vs) (by rw [show aTas t z ok vs = _ from ha]; simp [Act.okV])
  | ext i => exact absurd (okV_Ext i vs) (by rw [show aExt i vs = _ from ha]; simp [Act.okV])
  | len str => exact absurd (okV_Len str vs) (by rw [show aLen str vs = _ from ha]; simp [Act.okV])
  | lenA n => exact absurd (okV_LenA n vs) (by rw [show aLenA n vs = _ from ha]; simp [Act.okV])
  | cap  => exact absurd (okV_Cap  vs) (by rw [show aCap  vs = _ from ha]; simp [Act.okV])
  | min  => exact absurd (okV_Min  vs) (by rw [show aMin  vs = _ from ha]; simp [Act.okV])
  | max  => exact absurd (okV_Max  vs) (by rw [show aMax  vs = _ from ha]; simp [Act.okV])
  | unsSlD  => exact absurd (okV_UnsSlD  vs) (by rw [show aUnsSlD  vs = _ from ha]; simp [Act.okV])
  | idxByteStr  => exact absurd (okV_IdxByteStr  vs) (by rw [show aIdxByteStr  vs = _ from ha]; simp [Act.okV])
  | cmpStr  => exact absurd (okV_CmpStr  vs) (by rw [show aCmpStr  vs = _ from ha]; simp [Act.okV])
  | alloc e z => exact absurd (okN_Alloc e z vs) (by rw [show aAlloc e z vs = _ from ha]; simp [Act.okN])
  | box e => exact absurd (okN_Box e vs) (by rw [show aBox e vs = _ from ha]; simp [Act.okN])
  | buildSl e len z ps => exact absurd (okN_BuildSl e len z ps vs) (by rw [show aBuildSl e len z ps vs = _ from ha]; simp [Act.okN])
  | mkMap  => exact absurd (okN_MkMap  vs) (by rw [show aMkMap  vs = _ from ha]; simp [Act.okN])
  | mkSl e b z => exact absurd (okN_MkSl e b z vs) (by rw [show aMkSl e b z vs = _ from ha]; simp [Act.okN])
  | rngS  => exact absurd (okN_RngS  vs) (by rw [show aRngS  vs = _ from ha]; simp [Act.okN])
  | store n => exact absurd (okE_Store n vs) (by rw [show aStore n vs = _ from ha]; simp [Act.okE])
  | mset e => exact absurd (okE_Mset e vs) (by rw [show aMset e vs = _ from ha]; simp [Act.okE])
  | ment e z => exact absurd (okE_Ment e z vs) (by rw [show aMent e z vs = _ from ha]; simp [Act.okE])
  | mst  => exact absurd (okE_Mst  vs) (by rw [show aMst  vs = _ from ha]; simp [Act.okE])
  | nxtS  => exact absurd (okE_NxtS  vs) (by rw [show aNxtS  vs = _ from ha]; simp [Act.okE])
  | app e s b => exact absurd (okE_App e s b vs) (by rw [show aApp e s b vs = _ from ha]; simp [Act.okE])
  | copy s => exact absurd (okE_Copy s vs) (by rw [show aCopy s vs = _ from ha]; simp [Act.okE])
  | del e => exact absurd (okE_Del e vs) (by rw [show aDel e vs = _ from ha]; simp [Act.okE])
  | noZero e => exact absurd (okE_NoZero e vs) (by rw [show aNoZero e vs = _ from ha]; simp [Act.okE])
  | noEsc => exact absurd (okV_Mov vs) (by rw [show aMov vs = _ from ha]; simp [Act.okV])
  | unsStr e => exact absurd (okVE_UnsStr e vs) (by rw [show aUnsStr e vs = _ from ha]; simp [Act.okVE])
  | load1 =>
    refine ⟨?_, rfl⟩
    have ha' : aLoad1 vs = .rd f := ha
    unfold aLoad1 at ha'
    split at ha' <;> cases ha'
    exact cell_newObj hf h
  | loadN n =>
    refine ⟨?_, rfl⟩
    have ha' : aLoadN n vs = .rd f := ha
    unfold aLoadN at ha'
    split at ha' <;> cases ha'
    unfold rLoadN at h ⊢
    split at h
    · rename_i e; rw [cellsAt_newObj hf e]; exact h
    · cases h
  | look e z ok =>
    refine ⟨?_, rfl⟩
    have ha' : aLook e z ok vs = .rd f := ha
    unfold aLook at ha'
    split at ha'
    · rename_i key
      cases hk : keyOk e key with
      | true => rw [hk] at ha'; simp only [cond_true] at ha'; exact absurd (okV_some (lookRes z ok (some none))) (by rw [ha']; simp [Act.okV])
      | false => rw [hk] at ha'; cases ha'
    · rename_i i key
      cases hk : keyOk e key with
      | true =>
        rw [hk] at ha'; simp only [cond_true] at ha'; cases ha'
        unfold rLook at h ⊢
        split at h
        · rename_i e; rw [get_newObj hf e]; exact h
        · cases h
      | false => rw [hk] at ha'; cases ha'
    · cases ha'
  | lenM =>
    refine ⟨?_, rfl⟩
    have ha' : aLenM vs = .rd f := ha
    unfold aLenM at ha'
    split at ha' <;> cases ha'
    unfold rLenM at h ⊢
    split at h
    · rename_i e; rw [get_newObj hf e]; exact h
    · cases h
  | conv c =>
    have ha' : aConv c vs = .rd f := ha
    cases c with
    | int kd =>
      have ha' : cInt kd vs = .rd f := ha
      unfold cInt at ha'; split at ha' <;> cases ha'
    | same =>
      have ha' : cSame vs = .rd f := ha
      unfold cSame at ha'; split at ha' <;> cases ha'
    | bytes e =>
      have ha' : cBytes e vs = .rd f := ha
      unfold cBytes at ha'; split at ha' <;> cases ha'
    | ptrUns n =>
      refine ⟨?_, rfl⟩
      have ha' : cPtrUns n vs = .rd f := ha
      unfold cPtrUns at ha'
      split at ha'
      · cases ha'
      · cases hb : Nat.beq n 0 with
        | true => rw [hb] at ha'; cases ha'
        | false =>
          rw [hb] at ha'; cases ha'
          unfold rPtrUns at h ⊢
          split at h
          · rename_i e; rw [live_newObj hf e]; exact h
          · cases h
      · cases ha'
    | unsPtr u n =>
      refine ⟨?_, rfl⟩
      have ha' : cUnsPtr u n vs = .rd f := ha
      unfold cUnsPtr at ha'
      split at ha'
      · cases ha'
      · cases hb : Nat.beq n 0 with
        | true => rw [hb] at ha'; cases ha'
        | false =>
          rw [hb] at ha'; cases ha'
          unfold rUnsPtr at h ⊢
          split at h
          · rename_i e; rw [live_newObj hf e]; exact h
          · cases h
      · cases ha'
    | strOfBytes =>
      refine ⟨?_, rfl⟩
      have ha' : cStrOf vs = .rd f := ha
      unfold cStrOf at ha'
      split at ha'
      · cases ha'
      · rename_i i o n _ _ _
        cases hb : Nat.beq n 0 with
        | true => rw [hb] at ha'; cases ha'
        | false =>
          rw [hb] at ha'; cases ha'
          unfold rStrOf at h ⊢
          split at h
          · rename_i e; rw [cellsAt_newObj hf e]; exact h
          · cases h
      · cases ha'

theorem fl_noeff {k : K} (hk : isFl k = true) (vs : List AVal) (f : AHeap → Option (AVal × AHeap)) : actK k vs ≠ .eff f := by
  intro ha
  cases k with
  | mov  => exact absurd (okV_Mov  vs) (by rw [show aMov  vs = _ from ha]; simp [Act.okV])
  | pick  => exact absurd (okV_Pick  vs) (by rw [show aPick  vs = _ from ha]; simp [Act.okV])
  | build z ps => exact absurd (okV_Build z ps vs) (by rw [show aBuild z ps vs = _ from ha]; simp [Act.okV])
  | nilChk  => exact absurd (okV_NilChk  vs) (by rw [show aNilChk  vs = _ from ha]; simp [Act.okV])
  | bin op e => exact absurd (okV_Bin op e vs) (by rw [show aBin op e vs = _ from ha]; simp [Act.okV])
  | un op => exact absurd (okV_Un op vs) (by rw [show aUn op vs = _ from ha]; simp [Act.okV])
  | ifc t => exact absurd (okV_Ifc t vs) (by rw [show aIfc t vs = _ from ha]; simp [Act.okV])
  | clos f n => exact absurd (okV_Clos f n vs) (by rw [show aClos f n vs = _ from ha]; simp [Act.okV])
  | slS lo hi => exact absurd (okV_SlS lo hi vs) (by rw [show aSlS lo hi vs = _ from ha]; simp [Act.okV])
  | slE s lo hi mx => exact absurd (okV_SlE s lo hi mx vs) (by rw [show aSlE s lo hi mx vs = _ from ha]; simp [Act.okV])
  | slA n s lo hi => exact absurd (okV_SlA n s lo hi vs) (by rw [show aSlA n s lo hi vs = _ from ha]; simp [Act.okV])
  | fadr off => exact absurd (okV_Fadr off vs) (by rw [show aFadr off vs = _ from ha]; simp [Act.okV])
  | fld off n => exact absurd (okV_Fld off n vs) (by rw [show aFld off n vs = _ from ha]; simp [Act.okV])
  | iadrS s => exact absurd (okV_IadrS s vs) (by rw [show aIadrS s vs = _ from ha]; simp [Act.okV])
  | iadrA l s => exact absurd (okV_IadrA l s vs) (by rw [show aIadrA l s vs = _ from ha]; simp [Act.okV])
  | idxS  => exact absurd (okV_IdxS  vs) (by rw [show aIdxS  vs = _ from ha]; simp [Act.okV])
  | idxA l s n => exact absurd (okV_IdxA l s n vs) (by rw [show aIdxA l s n vs = _ from ha]; simp [Act.okV])
  | tas t z ok => exact absurd (okV_Tas t z ok vs) (by rw [show aTas t z ok vs = _ from ha]; simp [Act.okV])
  | ext i => exact absurd (okV_Ext i vs) (by rw [show aExt i vs = _ from ha]; simp [Act.okV])
  | len str => exact absurd (okV_Len str vs) (by rw [show aLen str vs = _ from ha]; simp [Act.okV])
  | lenA n => exact absurd (okV_LenA n vs) (by rw [show aLenA n vs = _ from ha]; simp [Act.okV])
  | cap  => exact absurd (okV_Cap  vs) (by rw [show aCap  vs = _ from ha]; simp [Act.okV])
  | min  => exact absurd (okV_Min  vs) (by rw [show aMin  vs = _ from ha]; simp [Act.okV])
  | max  => exact absurd (okV_Max  vs) (by rw [show aMax  vs = _ from ha]; simp [Act.okV])
  | unsSlD  => exact absurd (okV_UnsSlD  vs) (by rw [show aUnsSlD  vs = _ from ha]; simp [Act.okV])
  | idxByteStr  => exact absurd (okV_IdxByteStr  vs) (by rw [show aIdxByteStr  vs = _ from ha]; simp [Act.okV])
  | cmpStr  => exact absurd (okV_CmpStr  vs) (by rw [show aCmpStr  vs = _ from ha]; simp [Act.okV])
  | alloc e z => exact absurd (okN_Alloc e z vs) (by rw [show aAlloc e z vs = _ from ha]; simp [Act.okN])
  | box e => exact absurd (okN_Box e vs) (by rw [show aBox e vs = _ from ha]; simp [Act.okN])
  | buildSl e len z ps => exact absurd (okN_BuildSl e len z ps vs) (by rw [show aBuildSl e len z ps vs = _ from ha]; simp [Act.okN])
  | mkMap  => exact absurd (okN_MkMap  vs) (by rw [show aMkMap  vs = _ from ha]; simp [Act.okN])
  | mkSl e b z => exact absurd (okN_MkSl e b z vs) (by rw [show aMkSl e b z vs = _ from ha]; simp [Act.okN])
  | rngS  => exact absurd (okN_RngS  vs) (by rw [show aRngS  vs = _ from ha]; simp [Act.okN])
  | store n => cases hk
  | mset e => cases hk
  | ment e z => cases hk
  | mst  => cases hk
  | nxtS  => cases hk
  | app e s b => cases hk
  | copy s => cases hk
  | del e => cases hk
  | noZero e => cases hk
  | load1  => exact absurd (okR_Load1  vs) (by rw [show aLoad1  vs = _ from ha]; simp [Act.okR])
  | loadN n => exact absurd (okR_LoadN n vs) (by rw [show aLoadN n vs = _ from ha]; simp [Act.okR])
  | look e z ok => exact absurd (okR_Look e z ok vs) (by rw [show aLook e z ok vs = _ from ha]; simp [Act.okR])
  | lenM  => exact absurd (okR_LenM  vs) (by rw [show aLenM  vs = _ from ha]; simp [Act.okR])
  | noEsc => exact absurd (okV_Mov vs) (by rw [show aMov vs = _ from ha]; simp [Act.okV])
  | unsStr e => cases hk
  | conv c => exact absurd (okC_Conv c vs) (by rw [ha]; simp [Act.okC])
end Go.Am

namespace Go.Am
open Go

section
variable {esz : TypeId → Nat} {gl : Nat → Bool} {P : Program} {ops : Array Oper} {B : List Nat} {N nt mask : Nat}
variable {φ0 : Phi} {H0 : AHeap} {w0 : World} {env0 : Env} {a0 : Go.Act} {D : Nat → Prop} {φ : Phi} {H : AHeap} {env : Env} {a : Go.Act} {w : World} {A : List Nat} {L : List AVal} {R T : List Nat} {PH : Nat → Nat → Prop}

/-- the frame behind a result -/
noncomputable def envK (mask : Nat) (d : Option Nat) (v : AVal) (env : Env) : Env :=
  match d with
  | none => env
  | some d => bif Nat.testBit mask d then env.set d v else env

theorem keepD_some {o : Oper} {l l' : List Ins} (h : keepD nt mask o l = some l') :
    (∀ d, o.dst = some d → d < nt) ∧ ∀ {call : CallT} {rc : AVal} {kp : AVal → EK} {kn : EK} {v : AVal} {L : List AVal} {env : Env} {H : AHeap},
      runIns call rc kp l (v :: L) env H kn = true → runIns call rc kp l' (v :: L) (envK mask o.dst v env) H kn = true := by
  unfold keepD at h
  cases hd : o.dst with
  | none =>
    rw [hd] at h
    simp only [Option.some.injEq] at h
    subst h
    exact ⟨fun d e => (by cases e), fun hr => hr⟩
  | some d =>
    rw [hd] at h
    simp only at h
    cases hlt : Nat.blt d nt with
    | false => rw [hlt] at h; cases h
    | true =>
      rw [hlt] at h
      simp only [cond_true] at h
      rw [bltN] at hlt
      refine ⟨fun d' e => (by cases e; exact hlt), ?_⟩
      intro call rc kp kn v L env H hr
      simp only [envK]
      cases hm : Nat.testBit mask d with
      | false => rw [hm] at h; simp only [cond_false, Option.some.injEq] at h ⊢; subst h; exact hr
      | true =>
        rw [hm] at h
        simp only [cond_true] at h ⊢
        split at h
        · rename_i d' l''
          cases hb : Nat.beq d d' with
          | false => rw [hb] at h; cases h
          | true =>
            rw [hb] at h
            simp only [cond_true, Option.some.injEq] at h
            rw [beqN] at hb
            subst h; subst hb
            exact hr
        · cases h

theorem env_next {i : Nat} {o : Oper} {v : AVal} (ho : ops[i]? = some o)
    (h : ∀ t v, env.get t = some v → Nat.testBit mask t = true ∧ ((∃ i, dstO ops i = some t ∧ res A L i v) ∨ ((∀ i, i ∈ A → dstO ops i ≠ some t) ∧ env0.get t = some v))) :
    ∀ t u, (envK mask o.dst v env).get t = some u → Nat.testBit mask t = true ∧ ((∃ j, dstO ops j = some t ∧ res (i :: A) (v :: L) j u) ∨ ((∀ j, j ∈ i :: A → dstO ops j ≠ some t) ∧ env0.get t = some u)) := by
  have hdi : dstO ops i = o.dst := by simp [dstO, ho]
  have old : ∀ t u, env.get t = some u → o.dst ≠ some t → Nat.testBit mask t = true ∧ ((∃ j, dstO ops j = some t ∧ res (i :: A) (v :: L) j u) ∨ ((∀ j, j ∈ i :: A → dstO ops j ≠ some t) ∧ env0.get t = some u)) := by
    intro t u hu ht
    obtain ⟨h1, h2⟩ := h t u hu
    refine ⟨h1, ?_⟩
    rcases h2 with ⟨j, h3, h4⟩ | ⟨h3, h4⟩
    · exact .inl ⟨j, h3, h4.cons⟩
    · refine .inr ⟨fun j hj => ?_, h4⟩
      cases hj with
      | head => rw [hdi]; exact ht
      | tail _ hj => exact h3 j hj
  intro t u hu
  cases hd : o.dst with
  | none => rw [hd] at hu; exact old t u hu (by rw [hd]; intro e; cases e)
  | some d =>
    rw [hd] at hu
    simp only [envK] at hu
    cases hm : Nat.testBit mask d with
    | false =>
      rw [hm] at hu
      simp only [cond_false] at hu
      refine old t u hu ?_
      rw [hd]
      intro e
      have e' : d = t := Option.some.inj e
      rw [e', (h t u hu).1] at hm
      cases hm
    | true =>
      rw [hm] at hu
      simp only [cond_true] at hu
      rcases env_set hu with ⟨rfl, rfl⟩ | ⟨ht, hu⟩
      · exact ⟨hm, .inl ⟨i, by rw [hdi, hd], .head⟩⟩
      · exact old t u hu (by rw [hd]; intro e; cases e; exact ht rfl)

theorem mem_filtB {i r : Nat} : ∀ {R : List Nat}, r ∈ filtB B i R ↔ r ∈ R ∧ bef B i r = false
  | [] => by simp [filtB]
  | x :: R => by
    simp only [filtB]
    cases hb : bef B i x with
    | true =>
      simp only [cond_true]
      rw [mem_filtB (R := R)]
      constructor
      · exact fun h => ⟨List.mem_cons_of_mem _ h.1, h.2⟩
      · rintro ⟨h1, h2⟩
        cases h1 with
        | head => rw [hb] at h2; cases h2
        | tail _ h1 => exact ⟨h1, h2⟩
    | false =>
      simp only [cond_false, List.mem_cons]
      rw [mem_filtB (R := R)]
      constructor
      · rintro (rfl | h)
        · exact ⟨.inl rfl, hb⟩
        · exact ⟨.inr h.1, h.2⟩
      · rintro ⟨rfl | h1, h2⟩
        · exact .inl rfl
        · exact .inr ⟨h1, h2⟩

/-! ### the checks behind an operation -/
theorem chk_true {call : CallT} {rc : AVal} {kp : AVal → EK} {k : K} {as : List Opd} {j : Nat} {kn : IK} {L : List AVal} (h : nChk k as j L env H kn = true) :
    ∃ vs u, All2 (fun x v => evalO x L env = some v) as vs ∧ L[j]? = some u ∧ (actK k vs = .val u ∨ ∃ f, actK k vs = .rd f ∧ f H = some u) ∧ kn L env H = true := by
  obtain ⟨vs, h1, h2⟩ := opds_true h
  obtain ⟨u, h3, h4⟩ := oLoc_true L j h2
  refine ⟨vs, u, h1, h3, ?_⟩
  generalize actK k vs = r at h4
  cases r with
  | bad => cases h4
  | val v =>
    try simp only at h4
    cases hv : veq 100 v u with
    | false => rw [hv] at h4; cases h4
    | true => rw [hv] at h4; rw [veq_eq _ _ _ hv]; exact ⟨.inl rfl, h4⟩
  | rd f =>
    try simp only at h4
    cases hf : f H with
    | none => rw [hf] at h4; cases h4
    | some v =>
      rw [hf] at h4
      try simp only at h4
      cases hv : veq 100 v u with
      | false => rw [hv] at h4; cases h4
      | true => rw [hv] at h4; rw [veq_eq _ _ _ hv] at hf; exact ⟨.inr ⟨f, rfl, hf⟩, h4⟩
  | new v ob => cases h4
  | eff f => cases h4

theorem und_true {j : Nat} {kn : IK} {L : List AVal} (h : nUnd j L env H kn = true) : L[j]? = some (.tup []) ∧ kn L env H = true := by
  obtain ⟨u, h1, h2⟩ := oLoc_true L j h
  split at h2
  · exact ⟨h1, h2⟩
  · cases h2

theorem chks_run {call : CallT} {rc : AVal} {kp : AVal → EK} {kn : EK} : ∀ (T : List Nat) (l l' : List Ins), (∀ r ∈ T, r ∈ R) → DI esz gl P ops B N nt mask φ0 H0 w0 env0 a0 D φ H env a w A L R T PH →
    chks P gl ops B A T l = some l' → runIns call rc kp l L env H kn = true →
    runIns call rc kp l' L env H kn = true ∧ DI esz gl P ops B N nt mask φ0 H0 w0 env0 a0 D φ H env a w A L R [] PH
  | [], l, l', _, I, h, hr => by
    simp only [chks, Option.some.injEq] at h
    subst h
    exact ⟨hr, I⟩
  | r :: T, [], l', _, I, h, hr => by cases h
  | r :: T, i :: l, l', hT, I, h, hr => by
    simp only [chks] at h
    cases hc : chkOk P gl ops B A r i with
    | false => rw [hc] at h; cases h
    | true =>
      rw [hc] at h
      simp only [cond_true] at h
      -- what the check shows
      have key : runIns call rc kp l L env H kn = true ∧ (r ∈ A → Pend gl P ops B N env0 φ H A L R T PH r) := by
        unfold chkOk at hc
        cases ho : ops[r]? with
        | none => rw [ho] at hc; cases hc
        | some o =>
          rw [ho] at hc
          simp only at hc
          split at hc
          · rename_i k as j hg
            simp only [Bool.and_eq_true] at hc
            obtain ⟨⟨h1, h2⟩, h3⟩ := hc
            obtain ⟨vs, u, e1, e2, e3, e4⟩ := chk_true (call := call) (rc := rc) (kp := kp) (show nChk k as j L env H (fun L env H => runIns call rc kp l L env H kn) = true from hr)
            refine ⟨e4, fun _ => ?_⟩
            have hA : A[j]? = some r := by
              split at h1
              · rename_i r' e; rw [beqN] at h1; rw [e, h1]
              · cases h1
            refine ⟨o, u, ho, ⟨j, hA, e2⟩, .inl ⟨hg, k, vs, h2, I.args h3 e1, ?_⟩⟩
            rcases e3 with e3 | ⟨f, e3, e5⟩
            · exact .inl e3
            · exact .inr (.inl ⟨f, e3, hT r (List.mem_cons_self ..), fun _ => e5⟩)
          · rename_i g want gd want' k as j hg
            simp only [Bool.and_eq_true, eqBool_iff] at hc
            obtain ⟨⟨⟨⟨rfl, h0⟩, h1⟩, h2⟩, h3⟩ := hc
            cases hd : dstO ops g with
            | none => rw [hd] at h0; cases h0
            | some t =>
              rw [hd] at h0
              obtain ⟨ug, g1, g2⟩ := opd_true (show opd gd L env _ = true from hr)
              have hgv := I.odD h0 g1
              have hA : A[j]? = some r := by
                split at h1
                · rename_i r' e; rw [beqN] at h1; rw [e, h1]
                · cases h1
              cases ug <;> simp only at g2 <;> first | (cases g2; done) | skip
              · rename_i b
                by_cases hb : b = want
                · subst hb
                  rw [bif_true (by rw [eqBool_iff])] at g2
                  obtain ⟨vs, u, e1, e2, e3, e4⟩ := chk_true (call := call) (rc := rc) (kp := kp) g2
                  refine ⟨e4, fun _ => ⟨o, u, ho, ⟨j, hA, e2⟩, .inr ⟨g, b, t, _, hg, hd, hgv, .inl ⟨rfl, k, vs, h2, I.args h3 e1, ?_⟩⟩⟩⟩
                  rcases e3 with e3 | ⟨f, e3, e5⟩
                  · exact .inl e3
                  · exact .inr (.inl ⟨f, e3, hT r (List.mem_cons_self ..), fun _ => e5⟩)
                · rw [bif_false (by rw [Bool.eq_false_iff]; intro hh; exact hb (eqBool_iff.1 hh))] at g2
                  obtain ⟨e1, e2⟩ := und_true g2
                  exact ⟨e2, fun _ => ⟨o, _, ho, ⟨j, hA, e1⟩, .inr ⟨g, want, t, _, hg, hd, hgv, .inr (.inl ⟨⟨b, rfl, hb⟩, rfl⟩)⟩⟩⟩
              · obtain ⟨e1, e2⟩ := und_true g2
                exact ⟨e2, fun _ => ⟨o, _, ho, ⟨j, hA, e1⟩, .inr ⟨g, want, t, _, hg, hd, hgv, .inr (.inr ⟨⟨_, rfl⟩, rfl⟩)⟩⟩⟩
          · cases hc
      refine chks_run T l l' (fun x hx => hT x (List.mem_cons_of_mem _ hx)) { I with pend := ?_ } h key.1
      intro x hx hxD
      by_cases e : x = r
      · subst e; exact key.2 hx
      · refine (I.pend x hx hxD).imp (fun _ _ h => h) ?_ (fun x ob h1 h2 h3 h4 h5 h6 => ⟨h2, h3, h4, h5, h6⟩)
        intro k vs v f _ h2 h3
        refine ⟨h2, fun h4 => h3 ?_⟩
        intro h5
        cases h5 with
        | head => exact e rfl
        | tail _ h5 => exact h4 h5
end
end Go.Am

namespace Go.Am
open Go

section
variable {esz : TypeId → Nat} {gl : Nat → Bool} {P : Program} {ops : Array Oper} {B : List Nat} {N nt mask : Nat}
variable {φ0 : Phi} {H0 : AHeap} {w0 : World} {env0 : Env} {a0 : Go.Act} {D : Nat → Prop} {φ : Phi} {H : AHeap} {env : Env} {a : Go.Act} {w : World} {A : List Nat} {L : List AVal} {R T : List Nat} {PH : Nat → Nat → Prop}

theorem DI.nextN (I : DI esz gl P ops B N nt mask φ0 H0 w0 env0 a0 D φ H env a w A L R T PH) : N ≤ H.next := Nat.le_trans I.nx I.st.next

/-- the AM's heap after an operation that only reads or makes -/
def Grow (i : Nat) (H H' : AHeap) (PH PH' : Nat → Nat → Prop) : Prop :=
  (H' = H ∧ PH' = PH) ∨ ∃ ob, H' = H.newObj ob ∧ (∀ cs e g vv, ob = .cells cs e g vv → g = H.next ∧ vv = 0) ∧ PH' = fun j x => PH j x ∨ (j = i ∧ x = H.next)

theorem adv_DI (I : DI esz gl P ops B N nt mask φ0 H0 w0 env0 a0 D φ H env a w A L R [] PH) {i : Nat} {o : Oper} {v : AVal} {H' : AHeap} {PH' : Nat → Nat → Prop} {R' : List Nat} (ho : ops[i]? = some o) (hiA : i ∉ A)
    (hcn : chn ops i = false) (g : Grow i H H' PH PH') (hp : Pend gl P ops B N env0 φ H' (i :: A) (v :: L) R' [] PH' i) (hR : ∀ r ∈ R, r ∈ R') :
    DI esz gl P ops B N nt mask φ0 H0 w0 env0 a0 D φ H' (envK mask o.dst v env) a w (i :: A) (v :: L) R' [] PH' := by
  have hfr : ∀ i, H.next ≤ i → H.objs.get i = none := fun i hi => (I.sim.fresh i hi).1
  have hsim : Sim esz φ (fun g => gl g = true) H' w.heap ∧ Step N φ H w φ H' w ∧ H.next ≤ H'.next := by
    rcases g with ⟨rfl, _⟩ | ⟨ob, rfl, hsh, _⟩
    · exact ⟨I.sim, Step.refl .., Nat.le_refl _⟩
    · exact ⟨I.sim.phantom ob hsh, Step.phantom I.sim I.nextN ob, by rw [newObj_next]; exact Nat.le_succ _⟩
  refine
    { sim := hsim.1, st := I.st.trans hsim.2.1, nx := I.nx, len := by simp [I.len], nodup := List.nodup_cons.2 ⟨hiA, I.nodup⟩, da := fun j hj => List.mem_cons_of_mem _ (I.da j hj), cl := I.cl, ch := ?_, val := ?_, old := I.old, e0 := I.e0,
      env := env_next ho I.env, size := I.size, defs := I.defs, dfs := I.dfs, pend := ?_, inj := ?_, phlt := ?_ }
  · intro j hj hc
    cases hj with
    | head => rw [hcn] at hc; cases hc
    | tail _ hj => exact I.ch j hj hc
  · intro j d u hj hd hu
    rcases hu.of_cons with ⟨rfl, _⟩ | hu
    · exact absurd (I.da j hj) hiA
    · exact I.val j d u hj hd hu
  · intro j hj hD
    by_cases e : j = i
    · subst e; exact hp
    · have hjA : j ∈ A := by cases hj with | head => exact absurd rfl e | tail _ h => exact h
      refine (I.pend j hjA hD).imp (fun _ _ h => h.cons) ?_ ?_
      · intro k vs u f ha h1 h2
        refine ⟨hR _ h1, fun _ => ?_⟩
        have hf := h2 (by simp)
        rcases g with ⟨rfl, _⟩ | ⟨ob, rfl, _, _⟩
        · exact hf
        · exact (rd_mono ha hfr hf).1
      · intro x ob' h1 h2 h3 h4 h5 h6
        rcases g with ⟨rfl, rfl⟩ | ⟨ob, rfl, _, rfl⟩
        · exact ⟨h2, h3, h4, h5, h6⟩
        · refine ⟨by rw [newObj_next]; omega, ?_, h4, by rw [newObj_grps]; exact h5, .inl h6⟩
          rw [newObj_objs, if_neg (by omega)]; exact h3
  · intro j j' x h1 h2
    rcases g with ⟨rfl, rfl⟩ | ⟨ob, rfl, _, rfl⟩
    · exact I.inj j j' x h1 h2
    · rcases h1 with h1 | ⟨h1, h1'⟩
      · rcases h2 with h2 | ⟨h2, h2'⟩
        · exact I.inj j j' x h1 h2
        · have := I.phlt j x h1; omega
      · rcases h2 with h2 | ⟨h2, h2'⟩
        · have := I.phlt j' x h2; omega
        · rw [h1, h2]
  · intro j x h1
    rcases g with ⟨rfl, rfl⟩ | ⟨ob, rfl, _, rfl⟩
    · exact I.phlt j x h1
    · rw [newObj_next]
      rcases h1 with h1 | ⟨_, h1⟩
      · have := I.phlt j x h1; omega
      · omega

theorem core_adv (I : DI esz gl P ops B N nt mask φ0 H0 w0 env0 a0 D φ H env a w A L R [] PH) {i : Nat} {o : Oper} {k : K} {as : List Opd} {kn : IK} (hk : isFl k = true)
    (hok : okK P o.op k = true) (hod : all2 (odD gl ops B i A) (argsOf o.op) as = true) (h : nOp k as L env H kn = true) :
    ∃ v H' PH', kn (v :: L) env H' = true ∧ Grow i H H' PH PH' ∧ Core gl P ops B N env0 φ H' A L (bif isRdK k then i :: R else R) [] PH' i o v := by
  obtain ⟨vs, h1, h2⟩ := opds_true h
  have hv := I.args hod h1
  have hne := fl_noeff hk vs
  have hsh := act_shape k vs
  cases ha : actK k vs with
  | bad => rw [ha] at h2; cases h2
  | val v => rw [ha] at h2; exact ⟨v, H, PH, h2, .inl ⟨rfl, rfl⟩, k, vs, hok, hv, .inl ha⟩
  | rd f =>
    rw [ha] at h2
    simp only [nAct] at h2
    cases hf : f H with
    | none => rw [hf] at h2; cases h2
    | some v =>
      rw [hf] at h2
      have hfr : ∀ i, H.next ≤ i → H.objs.get i = none := fun i hi => (I.sim.fresh i hi).1
      have hrd := (rd_mono (ob := .siter [] 0) ha hfr hf).2
      refine ⟨v, H, PH, h2, .inl ⟨rfl, rfl⟩, k, vs, hok, hv, .inr (.inl ⟨f, ha, ?_, fun _ => hf⟩)⟩
      rw [hrd]; exact List.mem_cons_self ..
  | new vf ob =>
    rw [ha] at h2 hsh
    simp only [nAct] at h2
    refine ⟨vf H.next, H.newObj (ob H.next), fun j x => PH j x ∨ (j = i ∧ x = H.next), h2, .inr ⟨ob H.next, rfl, fun cs e g vv e1 => hsh _ cs e g vv e1, rfl⟩, k, vs, hok, hv,
      .inr (.inr ⟨vf, ob, H.next, ha, rfl, I.nextN, by rw [newObj_next]; exact Nat.lt_succ_self _, by simp, I.sim.none_next, ?_, .inr ⟨rfl, rfl⟩⟩)⟩
    rw [newObj_grps]; exact (I.sim.fresh _ (Nat.le_refl _)).2
  | eff f => exact absurd ha (hne f)

theorem Core.cons {H' : AHeap} {i i' : Nat} {o : Oper} {v v' : AVal} (h : Core gl P ops B N env0 φ H A L R T PH i o v) : Core gl P ops B N env0 φ H (i' :: A) (v' :: L) R T PH i o v := by
  obtain ⟨k, vs, h1, h2, h3⟩ := h
  exact ⟨k, vs, h1, h2.imp fun _ _ h => h.cons, h3⟩

theorem float_adv (I : DI esz gl P ops B N nt mask φ0 H0 w0 env0 a0 D φ H env a w A L R [] PH) {i : Nat} {o : Oper} {ins : Ins} {kn : IK} {call : CallT} {rc : AVal} {kp : AVal → EK} (ho : ops[i]? = some o) (hiA : i ∉ A)
    (hcn : chn ops i = false) (hG : okG P ops (odD gl ops B i A) o ins = true) (hfl : flIns ins = true) (h : insK call rc kp ins L env H kn = true) :
    ∃ v H' PH', kn (v :: L) env H' = true ∧ DI esz gl P ops B N nt mask φ0 H0 w0 env0 a0 D φ H' (envK mask o.dst v env) a w (i :: A) (v :: L) (bif rdIns ins then i :: R else R) [] PH' := by
  have hR : ∀ r ∈ R, r ∈ (bif rdIns ins then i :: R else R) := by
    intro r hr
    cases rdIns ins
    · exact hr
    · exact List.mem_cons_of_mem _ hr
  unfold okG at hG
  cases hg : o.guard with
  | none =>
    rw [hg] at hG
    cases ins <;> simp only [flIns] at hfl <;> first | (cases hfl; done) | skip
    · rename_i k as
      simp only [okI, Bool.and_eq_true] at hG
      obtain ⟨v, H', PH', h1, h2, h3⟩ := core_adv I hfl hG.1 hG.2 h
      exact ⟨v, H', PH', h1, adv_DI I ho hiA hcn h2 ⟨o, v, ho, .head, .inl ⟨hg, h3.cons (H' := H)⟩⟩ hR⟩
    · cases hG
  | some jw =>
    obtain ⟨j, want⟩ := jw
    rw [hg] at hG
    cases ins <;> simp only [flIns] at hfl hG <;> first | (cases hfl; done) | (cases hG; done) | skip
    rename_i gd want' inner
    cases inner <;> simp only at hfl <;> first | (cases hfl; done) | skip
    rename_i k as
    simp only [Bool.and_eq_true, eqBool_iff, okI] at hG
    obtain ⟨⟨rfl, h0⟩, h1, h2⟩ := hG
    cases hj : (ops[j]?).bind (·.dst) with
    | none => rw [hj] at h0; cases h0
    | some t =>
      rw [hj] at h0
      obtain ⟨ug, g1, g2⟩ := opd_true (show opd gd L env _ = true from h)
      have hgv := I.odD h0 g1
      have un : kn (.tup [] :: L) env H = true → ((∃ b, ug = .bool b ∧ b ≠ want) ∨ ∃ cs, ug = .tup cs) →
          ∃ v H' PH', kn (v :: L) env H' = true ∧ DI esz gl P ops B N nt mask φ0 H0 w0 env0 a0 D φ H' (envK mask o.dst v env) a w (i :: A) (v :: L) (bif rdIns (.gd gd want (.op k as)) then i :: R else R) [] PH' := by
        intro hk hu
        refine ⟨.tup [], H, PH, hk, adv_DI I ho hiA hcn (.inl ⟨rfl, rfl⟩) ⟨o, _, ho, .head, .inr ⟨j, want, t, ug, hg, hj, hgv.cons, ?_⟩⟩ hR⟩
        rcases hu with hu | hu
        · exact .inr (.inl ⟨hu, rfl⟩)
        · exact .inr (.inr ⟨hu, rfl⟩)
      cases ug <;> simp only at g2 <;> first | (cases g2; done) | skip
      · rename_i b
        by_cases hb : b = want
        · subst hb
          rw [bif_true (by rw [eqBool_iff])] at g2
          obtain ⟨v, H', PH', k1, k2, k3⟩ := core_adv I hfl h1 h2 (show nOp k as L env H kn = true from g2)
          exact ⟨v, H', PH', k1, adv_DI I ho hiA hcn k2 ⟨o, v, ho, .head, .inr ⟨j, b, t, _, hg, hj, hgv.cons, .inl ⟨rfl, k3.cons (H' := H)⟩⟩⟩ hR⟩
        · rw [bif_false (by rw [Bool.eq_false_iff]; intro hh; exact hb (eqBool_iff.1 hh))] at g2
          exact un g2 (.inl ⟨b, rfl, hb⟩)
      · exact un g2 (.inr ⟨_, rfl⟩)

/-! ### the program carries out what the AM has done already -/
theorem float_exec (hesz : ∀ t, esz t = P.cellsOf t) (I : DI esz gl P ops B N nt mask φ0 H0 w0 env0 a0 D φ H env a w A L R [] PH) {i : Nat} {o : Oper} (ho : ops[i]? = some o) (hi : i ∈ A) (hD : ¬ D i) (hb : ∀ j, bef B i j = true → D j)
    {next : Go.Act → World → Prop} {Q : Exit → Go.Act → World → Prop}
    (hn : ∀ v v' φ' w', res A L i v → VRel esz φ' v v' → Sim esz φ' (fun g => gl g = true) H w'.heap → Step N φ H w φ' H w' → (∀ j x, j ≠ i → PH j x → φ x = none → φ' x = none) → next (a.put o.dst v') w') :
    wpOp P ops Q i next a w := by
  obtain ⟨o', v, ho', hv, hp⟩ := I.pend i hi hD
  rw [ho] at ho'; cases ho'
  have core : Core gl P ops B N env0 φ H A L R [] PH i o v → o.wp P a w next Q := by
    rintro ⟨k, vs, h1, h2, h3⟩
    have hr := I.rels hb hD h2
    have hA := act_run (G := fun g => gl g = true) (names a) hesz h1 hr
    have hsh := act_shape k vs
    unfold Oper.wp
    rcases h3 with h3 | ⟨f, h3, _, h4⟩ | ⟨vf, ob, x, h3, h4, h5, h6, h7, h8, h9, h10⟩
    · rw [h3] at hA
      cases hA with
      | val hp =>
        obtain ⟨v', e1, e2⟩ := hp w
        rw [e1]
        exact hn v v' φ w hv e2 I.sim (Step.refl ..) (fun _ _ _ _ h => h)
    · rw [h3] at hA
      cases hA with
      | rd hp =>
        obtain ⟨v', e1, e2⟩ := hp H w v (h4 (by simp)) I.sim
        rw [e1]
        exact hn v v' φ w hv e2 I.sim (Step.refl ..) (fun _ _ _ _ h => h)
    · rw [h3] at hA hsh
      cases hA with
      | new hp =>
        obtain ⟨v', p, w', e1, e2, e3, e4⟩ := pend_run (hp w x) I.sim h8 h7 h9 h5 (fun cs e5 g vv e6 => hsh x cs e5 g vv e6)
        rw [e1]
        subst h4
        refine hn _ v' _ w' hv e2 e3 e4 ?_
        intro j y hj hy hφ
        rw [link_other]
        · exact hφ
        · intro e; subst e; exact hj (I.inj j i _ hy h10)
  unfold wpOp
  simp only [ho]
  rcases hp with ⟨hg, hc⟩ | ⟨g, want, t, u, hg, ht, hu, hc⟩
  · rw [if_pos (by simp [Region.wanted, hg])]
    exact .inl (core hc)
  · have hgu := I.opval hu hb hD
    rcases hc with ⟨rfl, hc⟩ | ⟨⟨b, rfl, hbw⟩, rfl⟩ | ⟨⟨cs, rfl⟩, rfl⟩
    · have hy := yielded_bool ht hgu
      rw [if_pos (by simp [Region.wanted, hg, hy])]
      exact .inl (core hc)
    · have hy := yielded_bool ht hgu
      rw [if_neg (by simp [Region.wanted, hg, hy]; exact hbw)]
      exact hn _ _ φ w hv (.tup .nil) I.sim (Step.refl ..) (fun _ _ _ _ h => h)
    · have hy := yielded_tup ht hgu
      rw [if_neg (by simp [Region.wanted, hg, hy])]
      exact hn _ _ φ w hv (.tup .nil) I.sim (Step.refl ..) (fun _ _ _ _ h => h)

theorem exec_DI (hone : oneW ops ops.size = true) (I : DI esz gl P ops B N nt mask φ0 H0 w0 env0 a0 D φ H env a w A L R [] PH) {i : Nat} {o : Oper} (ho : ops[i]? = some o) (hi : i ∈ A) (hD : ¬ D i) (hb : ∀ j, bef B i j = true → D j)
    (hnt : ∀ d, o.dst = some d → d < nt)
    {v : AVal} {v' : Value} {φ' : Phi} {w' : World} (hv : res A L i v) (hvr : VRel esz φ' v v') (S : Sim esz φ' (fun g => gl g = true) H w'.heap) (st : Step N φ H w φ' H w')
    (hph : ∀ j x, j ≠ i → PH j x → φ x = none → φ' x = none) :
    DI esz gl P ops B N nt mask φ0 H0 w0 env0 a0 (fun j => D j ∨ j = i) φ' H env (a.put o.dst v') w' A L R [] PH := by
  have hdi : dstO ops i = o.dst := by simp [dstO, ho]
  refine
    { sim := S, st := I.st.trans st, nx := I.nx, len := I.len, nodup := I.nodup, da := ?_, cl := ?_, ch := fun j hj hc => .inl (I.ch j hj hc), val := ?_, old := ?_, e0 := fun t u hu => (I.e0 t u hu).mono st.ext,
      env := I.env, size := by rw [put_size]; exact I.size, defs := by rw [put_defers]; exact I.defs, dfs := by rw [put_defers]; exact I.dfs, pend := ?_, inj := I.inj, phlt := I.phlt }
  · rintro j (hj | rfl)
    · exact I.da j hj
    · exact hi
  · rintro j (hj | rfl) j' h
    · exact .inl (I.cl j hj j' h)
    · exact .inl (hb j' h)
  · rintro j d u (hj | rfl) hd hu
    · have hne : o.dst ≠ some d := by
        intro e
        rw [← hdi] at e
        have := oneW_iff hone i j (dstO_lt e) (dstO_lt hd) e hd
        subst this
        exact hD hj
      rw [Act.eval_put (fun d' e1 e2 => by cases e2; exact hne e1)]
      exact (I.val j d u hj hd hu).mono st.ext
    · have := res.uniq I.nodup hu hv
      subst this
      rw [hdi] at hd
      rw [hd, put_self (Nat.lt_of_lt_of_le (hnt d hd) I.size)]
      exact hvr
  · intro t ht
    have hne : o.dst ≠ some t := by
      intro e; exact ht i (.inr rfl) (by rw [hdi]; exact e)
    rw [Act.eval_put (fun d' e1 e2 => by cases e2; exact hne e1)]
    exact I.old t fun j hj => ht j (.inl hj)
  · intro j hj hDj
    have hji : j ≠ i := fun e => hDj (.inr e)
    refine (I.pend j hj (fun h => hDj (.inl h))).imp (fun _ _ h => h) (fun k vs u f _ h1 h2 => ⟨h1, h2⟩) ?_
    intro x ob h1 h2 h3 h4 h5 h6
    exact ⟨h2, h3, hph j x hji h6 h4, h5, h6⟩

/-- behind an operation of the one order, carried out by both at once -/
theorem chain_DI (hone : oneW ops ops.size = true) (I : DI esz gl P ops B N nt mask φ0 H0 w0 env0 a0 D φ H env a w A L R [] PH) {i : Nat} {o : Oper} (ho : ops[i]? = some o) (hi : i ∉ A) (hb : ∀ j, bef B i j = true → D j)
    (hnt : ∀ d, o.dst = some d → d < nt)
    {v : AVal} {v' : Value} {φ' : Phi} {H' : AHeap} {w' : World} (hvr : VRel esz φ' v v') (S : Sim esz φ' (fun g => gl g = true) H' w'.heap) (st : Step H.next φ H w φ' H' w') :
    DI esz gl P ops B N nt mask φ0 H0 w0 env0 a0 (fun j => D j ∨ j = i) φ' H' (envK mask o.dst v env) (a.put o.dst v') w' (i :: A) (v :: L) (filtB B i R) (filtB B i R) PH := by
  have hdi : dstO ops i = o.dst := by simp [dstO, ho]
  have hD : ¬ D i := fun h => hi (I.da i h)
  refine
    { sim := S, st := I.st.trans (st.mono I.nextN), nx := I.nx, len := by simp [I.len], nodup := List.nodup_cons.2 ⟨hi, I.nodup⟩, da := ?_, cl := ?_, ch := ?_, val := ?_, old := ?_, e0 := fun t u hu => (I.e0 t u hu).mono st.ext,
      env := env_next ho I.env, size := by rw [put_size]; exact I.size, defs := by rw [put_defers]; exact I.defs, dfs := by rw [put_defers]; exact I.dfs, pend := ?_, inj := I.inj, phlt := fun j x h => Nat.lt_of_lt_of_le (I.phlt j x h) st.next }
  · rintro j (hj | rfl)
    · exact List.mem_cons_of_mem _ (I.da j hj)
    · exact List.mem_cons_self ..
  · rintro j (hj | rfl) j' h
    · exact .inl (I.cl j hj j' h)
    · exact .inl (hb j' h)
  · intro j hj hc
    cases hj with
    | head => exact .inr rfl
    | tail _ hj => exact .inl (I.ch j hj hc)
  · rintro j d u (hj | rfl) hd hu
    · have hji : j ≠ i := fun e => by subst e; exact hD hj
      have hne : o.dst ≠ some d := by
        intro e
        rw [← hdi] at e
        exact hji (oneW_iff hone j i (dstO_lt hd) (dstO_lt e) hd e)
      rw [Act.eval_put (fun d' e1 e2 => by cases e2; exact hne e1)]
      rcases hu.of_cons with ⟨e, _⟩ | hu
      · exact absurd e hji
      · exact (I.val j d u hj hd hu).mono st.ext
    · rcases hu.of_cons with ⟨_, rfl⟩ | hu
      · rw [hdi] at hd
        rw [hd, put_self (Nat.lt_of_lt_of_le (hnt d hd) I.size)]
        exact hvr
      · exact absurd hu.mem hi
  · intro t ht
    have hne : o.dst ≠ some t := by
      intro e; exact ht i (.inr rfl) (by rw [hdi]; exact e)
    rw [Act.eval_put (fun d' e1 e2 => by cases e2; exact hne e1)]
    exact I.old t fun j hj => ht j (.inl hj)
  · intro j hj hDj
    have hji : j ≠ i := fun e => hDj (.inr e)
    have hjA : j ∈ A := by cases hj with | head => exact absurd rfl hji | tail _ h => exact h
    have hjD : ¬ D j := fun h => hDj (.inl h)
    refine (I.pend j hjA hjD).imp (fun _ _ h => h.cons) ?_ ?_
    · intro k vs u f _ h1 h2
      have : j ∈ filtB B i R := by
        rw [mem_filtB]
        refine ⟨h1, ?_⟩
        cases e : bef B i j with
        | false => rfl
        | true => exact absurd (hb j e) hjD
      exact ⟨this, fun h => absurd this h⟩
    · intro x ob h1 h2 h3 h4 h5 h6
      obtain ⟨k1, k2, k3⟩ := st.ph x h2 h4
      exact ⟨Nat.lt_of_lt_of_le h2 st.next, k2.trans h3, k1, k3.trans h5, h6⟩
end
end Go.Am

namespace Go.Am
open Go

section
variable {esz : TypeId → Nat} {gl : Nat → Bool} {P : Program} {ops : Array Oper} {B : List Nat} {N nt mask : Nat}
variable {φ0 : Phi} {H0 : AHeap} {w0 : World} {env0 : Env} {a0 : Go.Act} {D : Nat → Prop} {φ : Phi} {H : AHeap} {env : Env} {a : Go.Act} {w : World} {A : List Nat} {L : List AVal} {R T : List Nat} {PH : Nat → Nat → Prop}

theorem permOk_cons {i : Nat} {p A : List Nat} {lc : Option Nat} (h : permOk ops B (i :: p) A lc = true) :
    (∃ o, ops[i]? = some o ∧ edgesIn A o.after.toList = true) ∧ i ∉ A ∧ (∀ c, lc = some c → bef B i c = true) ∧ permOk ops B p (i :: A) (bif chn ops i then some i else lc) = true := by
  simp only [permOk, Bool.and_eq_true, Bool.not_eq_true'] at h
  obtain ⟨⟨⟨h1, h2⟩, h3⟩, h4⟩ := h
  refine ⟨?_, ?_, ?_, h4⟩
  · cases ho : ops[i]? with
    | none => rw [ho] at h1; cases h1
    | some o => rw [ho] at h1; exact ⟨o, rfl, h1⟩
  · intro hi; rw [memN_iff.2 hi] at h2; cases h2
  · intro c hc; rw [hc] at h3; exact h3
theorem permOk_sub : ∀ {p A : List Nat} {lc : Option Nat}, permOk ops B p A lc = true → ∀ i ∈ p, i ∉ A
  | [], _, _, _, i, hi => by cases hi
  | j :: p, A, lc, h, i, hi => by
    obtain ⟨_, h2, _, h4⟩ := permOk_cons h
    cases hi with
    | head => exact h2
    | tail _ hi => exact fun k => permOk_sub h4 i hi (List.mem_cons_of_mem _ k)
theorem permOk_after : ∀ {p A : List Nat} {c : Nat}, permOk ops B p A (some c) = true → ∀ i ∈ p, ∃ c2, (c2 = c ∨ c2 ∈ p) ∧ bef B i c2 = true
  | [], _, _, _, i, hi => by cases hi
  | j :: p, A, c, h, i, hi => by
    obtain ⟨_, _, h3, h4⟩ := permOk_cons h
    cases hi with
    | head => exact ⟨c, .inl rfl, h3 c rfl⟩
    | tail _ hi =>
      cases hc : chn ops j with
      | true =>
        rw [hc] at h4
        obtain ⟨c2, h5, h6⟩ := permOk_after h4 i hi
        rcases h5 with rfl | h5
        · exact ⟨_, .inr (List.mem_cons_self ..), h6⟩
        · exact ⟨c2, .inr (List.mem_cons_of_mem _ h5), h6⟩
      | false =>
        rw [hc] at h4
        obtain ⟨c2, h5, h6⟩ := permOk_after h4 i hi
        rcases h5 with rfl | h5
        · exact ⟨_, .inl rfl, h6⟩
        · exact ⟨c2, .inr (List.mem_cons_of_mem _ h5), h6⟩
theorem edgesIn_iff {A : List Nat} : ∀ {es : List Edge}, edgesIn A es = true → ∀ e ∈ es, Region.binds .any e = true → e.on ∈ A
  | [], _, e, he, _ => by cases he
  | e' :: es, h, e, he, hb => by
    simp only [edgesIn, Bool.and_eq_true, Bool.or_eq_true, Bool.not_eq_true'] at h
    cases he with
    | head =>
      rcases h.1 with h1 | h1
      · rw [hb] at h1; cases h1
      · exact memN_iff.1 h1
    | tail _ he => exact edgesIn_iff h.2 e he hb
/-- the first operation that is not carried out yet is ready -/
theorem permOk_first : ∀ {p A : List Nat} {lc : Option Nat}, permOk ops B p A lc = true → (∀ j ∈ A, D j) → (∃ i ∈ p, ¬ D i) →
    ∃ i o, i ∈ p ∧ ¬ D i ∧ ops[i]? = some o ∧ ∀ e ∈ o.after.toList, Region.binds .any e = true → D e.on
  | [], _, _, _, _, ⟨i, hi, _⟩ => by cases hi
  | j :: p, A, lc, h, hA, ⟨i, hi, hD⟩ => by
    obtain ⟨⟨o, h1, h1'⟩, _, _, h4⟩ := permOk_cons h
    by_cases hj : D j
    · have hi' : i ∈ p := by
        cases hi with
        | head => exact absurd hj hD
        | tail _ hi => exact hi
      obtain ⟨i', o', k1, k2⟩ := permOk_first h4 (fun x hx => by cases hx with | head => exact hj | tail _ hx => exact hA x hx) ⟨i, hi', hD⟩
      exact ⟨i', o', List.mem_cons_of_mem _ k1, k2⟩
    · exact ⟨j, o, List.mem_cons_self .., hj, h1, fun e he hb => hA _ (edgesIn_iff h1' e he hb)⟩
theorem cover_iff {p : List Nat} : ∀ {n : Nat}, cover p n = true → ∀ i, i < n → i ∈ p
  | 0, _, i, hi => by omega
  | n + 1, h, i, hi => by
    simp only [cover, Bool.and_eq_true] at h
    by_cases e : i = n
    · subst e; exact memN_iff.1 h.1
    · exact cover_iff h.2 i (by omega)

/-- where the AM waits for the program -/
structure Wait (esz : TypeId → Nat) (gl : Nat → Bool) (P : Program) (ops : Array Oper) (B : List Nat) (N nt mask : Nat) (φ0 : Phi) (H0 : AHeap) (w0 : World) (env0 : Env) (a0 : Go.Act) (call : CallT) (rc : AVal) (kp : AVal → EK) (kn : EK)
    (D : Nat → Prop) (φ : Phi) (a : Go.Act) (w : World) (p : List Nat) (l : List Ins) (A : List Nat) (L : List AVal) (R : List Nat) (env : Env) (H : AHeap) (PH : Nat → Nat → Prop) (lc : Option Nat) : Prop where
  di : DI esz gl P ops B N nt mask φ0 H0 w0 env0 a0 D φ H env a w A L R [] PH
  chk : chkD P gl ops B nt mask p l A R = true
  run : runIns call rc kp l L env H kn = true
  perm : permOk ops B p A lc = true
  all : ∀ i, i < ops.size → i ∈ A ∨ i ∈ p
  dst : ∀ i o d, i ∈ A → ops[i]? = some o → o.dst = some d → d < nt

theorem chkD_cons {i : Nat} {p : List Nat} {l : List Ins} (h : chkD P gl ops B nt mask (i :: p) l A R = true) :
    ∃ o ins l', ops[i]? = some o ∧ l = ins :: l' ∧ okG P ops (odD gl ops B i A) o ins = true ∧
      (isPan l = true ∨ (chn ops i = true ∧ ∃ l'' l3, keepD nt mask o l' = some l'' ∧ chks P gl ops B (i :: A) (filtB B i R) l'' = some l3 ∧ chkD P gl ops B nt mask p l3 (i :: A) (filtB B i R) = true) ∨
       (chn ops i = false ∧ flIns ins = true ∧ ∃ l'', keepD nt mask o l' = some l'' ∧ chkD P gl ops B nt mask p l'' (i :: A) (bif rdIns ins then i :: R else R) = true)) := by
  unfold chkD at h
  cases ho : ops[i]? with
  | none => rw [ho] at h; cases h
  | some o =>
    rw [ho] at h
    cases l with
    | nil => cases h
    | cons ins l' =>
      simp only [Bool.and_eq_true, Bool.or_eq_true] at h
      obtain ⟨h1, h2⟩ := h
      refine ⟨o, ins, l', rfl, rfl, h1, ?_⟩
      rcases h2 with h2 | h2
      · exact .inl h2
      right
      cases hc : chn ops i with
      | true =>
        rw [hc] at h2
        simp only [cond_true] at h2
        refine .inl ⟨rfl, ?_⟩
        cases hk : keepD nt mask o l' with
        | none => rw [hk] at h2; cases h2
        | some l'' =>
          rw [hk] at h2
          simp only at h2
          cases hs : chks P gl ops B (i :: A) (filtB B i R) l'' with
          | none => rw [hs] at h2; cases h2
          | some l3 => rw [hs] at h2; exact ⟨l'', l3, rfl, hs, h2⟩
      | false =>
        rw [hc] at h2
        simp only [cond_false, Bool.and_eq_true] at h2
        refine .inr ⟨rfl, h2.1, ?_⟩
        cases hk : keepD nt mask o l' with
        | none => rw [hk] at h2; cases h2.2
        | some l'' => rw [hk] at h2; exact ⟨l'', rfl, h2.2⟩

theorem pan_false {call : CallT} {rc : AVal} {kp : AVal → EK} {kn : EK} {l : List Ins} (hkp : ∀ v env H, kp v env H = false) (h : isPan l = true) (hr : runIns call rc kp l L env H kn = true) : False := by
  unfold isPan at h
  split at h
  · rename_i x l0
    obtain ⟨v, _, e⟩ := opd_true (show opd x L env _ = true from hr)
    try simp only at e
    split at e
    · rw [hkp] at e; cases e
    · cases e
  · cases h

/-- the AM carries out all that is free, up to the next operation of the one order -/
theorem advance {call : CallT} {rc : AVal} {kp : AVal → EK} {kn : EK} (hkp : ∀ v env H, kp v env H = false) : ∀ (p : List Nat) (l : List Ins) (A : List Nat) (L : List AVal) (R : List Nat) (env : Env) (H : AHeap) (PH : Nat → Nat → Prop) (lc : Option Nat),
    Wait esz gl P ops B N nt mask φ0 H0 w0 env0 a0 call rc kp kn D φ a w p l A L R env H PH lc →
    ∃ p' l' A' L' R' env' H' PH' lc', Wait esz gl P ops B N nt mask φ0 H0 w0 env0 a0 call rc kp kn D φ a w p' l' A' L' R' env' H' PH' lc' ∧ (p' = [] ∨ ∃ c q, p' = c :: q ∧ chn ops c = true) := by
  intro p
  induction p with
  | nil => intro l A L R env H PH lc W; exact ⟨[], l, A, L, R, env, H, PH, lc, W, .inl rfl⟩
  | cons i p ih =>
    intro l A L R env H PH lc W
    obtain ⟨o, ins, l', ho, rfl, hG, hc⟩ := chkD_cons W.chk
    rcases hc with hpan | ⟨hc, _⟩ | ⟨hc, hfl, l'', hk, hck⟩
    · exact (pan_false hkp hpan W.run).elim
    · exact ⟨i :: p, _, A, L, R, env, H, PH, lc, W, .inr ⟨i, p, rfl, hc⟩⟩
    · obtain ⟨_, hiA, _, hp⟩ := permOk_cons W.perm
      obtain ⟨v, H', PH', h1, h2⟩ := float_adv W.di ho hiA hc hG hfl (show insK call rc kp ins L env H _ = true from W.run)
      obtain ⟨hd, hrun⟩ := keepD_some hk
      refine ih l'' (i :: A) (v :: L) _ _ H' PH' _ ⟨h2, hck, hrun h1, hp, ?_, ?_⟩
      · intro j hj
        rcases W.all j hj with h | h
        · exact .inl (List.mem_cons_of_mem _ h)
        · cases h with
          | head => exact .inl (List.mem_cons_self ..)
          | tail _ h => exact .inr h
      · intro j o' d hj ho' hd'
        cases hj with
        | head => rw [ho] at ho'; cases ho'; exact hd d hd'
        | tail _ hj => exact W.dst j o' d hj ho' hd'

/-! ### all orders -/
def left (listed : Array Bool) : Nat := listed.toList.countP (fun b => !b)
theorem left_set {listed : Array Bool} {i : Nat} (h : listed.getD i true = false) : left listed = left (listed.setIfInBounds i true) + 1 := by
  obtain ⟨l⟩ := listed
  simp only [left, List.setIfInBounds_toArray]
  rw [Array.getD_eq_getD_getElem?] at h
  simp at h
  induction l generalizing i with
  | nil => simp at h
  | cons b l ih =>
    cases i with
    | zero =>
      simp at h; subst h
      simp
    | succ i =>
      simp at h
      have := ih h
      simp [List.countP_cons, this]
      omega
theorem left_zero {listed : Array Bool} (h : left listed = 0) (i : Nat) (hi : i < listed.size) : listed.getD i false = true := by
  obtain ⟨l⟩ := listed
  simp only [left] at h
  rw [List.countP_eq_zero] at h
  simp at hi h
  rw [Array.getD_eq_getD_getElem?]
  simp [hi]
  cases e : l[i] with
  | true => rfl
  | false => exact absurd (e ▸ List.getElem_mem hi) h
theorem left_new (n : Nat) : left (Array.replicate n false) = n := by
  simp [left, Array.toList_replicate, List.countP_replicate]

theorem drawn_run (hesz : ∀ t, esz t = P.cellsOf t) {call : CallT} {rc : AVal} {kp : AVal → EK} {kn : EK} {Q : Exit → Go.Act → World → Prop} {perm : List Nat}
    (hC : ∀ φ H w, Sim esz φ (fun g => gl g = true) H w.heap → Step N φ0 H0 w0 φ H w → CallHere esz (fun g => gl g = true) P call φ H w) (hkp : ∀ v env H, kp v env H = false) (hone : oneW ops ops.size = true) (hperm : permOk ops B perm [] none = true) (hcov : cover perm ops.size = true)
    (hB : ∀ i o, ops[i]? = some o → ∀ j, bef B i j = true → ∃ e ∈ o.after.toList, Region.binds .any e = true ∧ (e.on = j ∨ bef B e.on j = true))
    (hQ : ∀ φ env a w H, EI P esz nt mask φ env a → Sim esz φ (fun g => gl g = true) H w.heap → Step N φ0 H0 w0 φ H w → a.defers = a0.defers → kn env H = true → Q .normal a w) :
    ∀ (fuel : Nat) (listed : Array Bool) (φ : Phi) (a : Go.Act) (w : World) (p : List Nat) (l : List Ins) (A : List Nat) (L : List AVal) (R : List Nat) (env : Env) (H : AHeap) (PH : Nat → Nat → Prop) (lc : Option Nat),
    listed.size = ops.size → left listed = fuel →
    Wait esz gl P ops B N nt mask φ0 H0 w0 env0 a0 call rc kp kn (fun i => listed.getD i false = true) φ a w p l A L R env H PH lc → (p = [] ∨ ∃ c q, p = c :: q ∧ chn ops c = true) →
    wpAny P .any ops Q fuel listed a w := by
  -- the end of the region
  have fin : ∀ (listed : Array Bool) (φ : Phi) (a : Go.Act) (w : World) (p : List Nat) (l : List Ins) (A : List Nat) (L : List AVal) (R : List Nat) (env : Env) (H : AHeap) (PH : Nat → Nat → Prop) (lc : Option Nat),
      Wait esz gl P ops B N nt mask φ0 H0 w0 env0 a0 call rc kp kn (fun i => listed.getD i false = true) φ a w p l A L R env H PH lc → (p = [] ∨ ∃ c q, p = c :: q ∧ chn ops c = true) →
      (∀ i, i < ops.size → listed.getD i false = true) → Q .normal a w := by
    intro listed φ a w p l A L R env H PH lc W hst hall
    have hp : p = [] := by
      cases p with
      | nil => rfl
      | cons i p =>
        obtain ⟨⟨o, ho, _⟩, hiA, _⟩ := permOk_cons W.perm
        have hi : i < ops.size := by
          rcases Nat.lt_or_ge i ops.size with h | h
          · exact h
          · rw [Array.getElem?_eq_none h] at ho; cases ho
        exact absurd (W.di.da i (hall i hi)) hiA
    subst hp
    have hl : l = [] := by
      have := W.chk
      unfold chkD at this
      cases l with
      | nil => rfl
      | cons _ _ => cases this
    subst hl
    refine hQ φ env a w H ⟨?_, W.di.size, W.di.defs⟩ W.di.sim W.di.st W.di.dfs W.run
    intro t v hv
    obtain ⟨h1, h2⟩ := W.di.env t v hv
    refine ⟨h1, ?_⟩
    rcases h2 with ⟨i, h3, h4⟩ | ⟨h3, h4⟩
    · exact W.di.val i t v (hall i (dstO_lt h3)) h3 h4
    · rw [W.di.old t (fun i hi => h3 i (W.di.da i hi))]
      exact W.di.e0 t v h4
  intro fuel
  induction fuel with
  | zero =>
    intro listed φ a w p l A L R env H PH lc hsz hleft W hst
    have hall : ∀ i, i < ops.size → listed.getD i false = true := fun i hi => left_zero hleft i (by rw [hsz]; exact hi)
    refine ⟨?_, fin listed φ a w p l A L R env H PH lc W hst hall⟩
    unfold Region.ready
    rw [List.filter_eq_nil_iff]
    intro i hi
    rw [List.mem_range] at hi
    have h1 := hall i hi
    have : listed.getD i true = true := by
      rw [Array.getD_eq_getD_getElem?] at h1 ⊢
      rw [Array.getElem?_eq_getElem (by omega)] at h1 ⊢
      exact h1
    simp [this]
  | succ fuel ih =>
    intro listed φ a w p l A L R env H PH lc hsz hleft W hst
    refine ⟨?_, ?_⟩
    · intro hr
      refine fin listed φ a w p l A L R env H PH lc W hst ?_
      intro i hi
      by_cases h : listed.getD i false = true
      · exact h
      · exfalso
        obtain ⟨i', o, h1, h2, h3, h4⟩ := permOk_first (D := fun i => listed.getD i false = true) hperm (fun j hj => by cases hj) ⟨i, cover_iff hcov i hi, h⟩
        have hi' : i' < ops.size := by
          rcases Nat.lt_or_ge i' ops.size with h | h
          · exact h
          · rw [Array.getElem?_eq_none h] at h3; cases h3
        have hmem : i' ∈ Region.ready .any ops listed := by
          unfold Region.ready
          rw [List.mem_filter, List.mem_range]
          refine ⟨hi', ?_⟩
          have h5 : listed.getD i' true = false := by
            rw [Array.getD_eq_getD_getElem?] at h2 ⊢
            rw [Array.getElem?_eq_getElem (by omega)] at h2 ⊢
            simpa using h2
          rw [h5, h3]
          simp only [Bool.not_false, Bool.true_and, Option.map_some, Option.getD_some]
          rw [Array.all_eq_true']
          intro e he
          rw [Bool.or_eq_true, Bool.not_eq_true']
          by_cases hb : Region.binds .any e = true
          · exact .inr (h4 e (by simpa using he) hb)
          · exact .inl (by simpa using hb)
        rw [hr] at hmem
        cases hmem
    · intro i hmem
      unfold Region.ready at hmem
      rw [List.mem_filter, List.mem_range] at hmem
      obtain ⟨hi, hmem⟩ := hmem
      rw [Bool.and_eq_true, Bool.not_eq_true'] at hmem
      obtain ⟨hl1, hl2⟩ := hmem
      cases ho : ops[i]? with
      | none => rw [Array.getElem?_eq_none_iff] at ho; omega
      | some o =>
        rw [ho] at hl2
        simp only [Option.map_some, Option.getD_some] at hl2
        rw [Array.all_eq_true'] at hl2
        have hD : ¬ (listed.getD i false = true) := by
          rw [Array.getD_eq_getD_getElem?] at hl1 ⊢
          rw [Array.getElem?_eq_getElem (by omega)] at hl1 ⊢
          simpa using hl1
        have hb : ∀ j, bef B i j = true → listed.getD j false = true := by
          intro j hj
          obtain ⟨e, he, h1, h2⟩ := hB i o ho j hj
          have h3 : listed.getD e.on false = true := by
            have := hl2 e (by simpa using he)
            rw [Bool.or_eq_true, Bool.not_eq_true', h1] at this
            simpa using this
          rcases h2 with rfl | h2
          · exact h3
          · exact W.di.cl e.on h3 j h2
        have hset : ∀ j, (listed.setIfInBounds i true).getD j false = true ↔ (listed.getD j false = true ∨ j = i) := by
          intro j
          rw [Array.getD_eq_getD_getElem?, Array.getD_eq_getD_getElem?, Array.getElem?_setIfInBounds]
          by_cases e : i = j
          · subst e
            simp [hsz, hi]
          · rw [if_neg e]
            constructor
            · exact .inl
            · rintro (h | h)
              · exact h
              · exact absurd h.symm e
        have hDeq : (fun j => (listed.setIfInBounds i true).getD j false = true) = (fun j => listed.getD j false = true ∨ j = i) := funext fun j => propext (hset j)
        have hsz' : (listed.setIfInBounds i true).size = ops.size := by simpa using hsz
        have hleft' : left (listed.setIfInBounds i true) = fuel := by
          have := left_set hl1
          omega
        by_cases hiA : i ∈ A
        · -- the AM has it already
          refine float_exec hesz W.di ho hiA hD hb ?_
          intro v v' φ' w' hv hvr S st hph
          refine ih _ φ' _ w' p l A L R env H PH lc hsz' hleft' ⟨?_, W.chk, W.run, W.perm, W.all, W.dst⟩ hst
          rw [hDeq]
          exact exec_DI hone W.di ho hiA hD hb (fun d hd => W.dst i o d hiA ho hd) hv hvr S st hph
        · -- the next one of the one order
          obtain ⟨c, q, rfl, hcc⟩ : ∃ c q, p = c :: q ∧ chn ops c = true := by
            rcases hst with rfl | h
            · rcases W.all i hi with h | h
              · exact absurd h hiA
              · cases h
            · exact h
          obtain ⟨_, hcA, _, hq⟩ := permOk_cons W.perm
          rw [hcc] at hq
          have hic : i = c := by
            rcases W.all i hi with h | h
            · exact absurd h hiA
            · cases h with
              | head => rfl
              | tail _ h =>
                exfalso
                obtain ⟨c2, h1, h2⟩ := permOk_after hq i h
                have h3 := W.di.da c2 (hb c2 h2)
                rcases h1 with rfl | h1
                · exact hcA h3
                · exact permOk_sub hq c2 h1 (List.mem_cons_of_mem _ h3)
          subst hic
          obtain ⟨o', ins, l', ho', rfl, hG, hck⟩ := chkD_cons W.chk
          rw [ho] at ho'; cases ho'
          rcases hck with hpan | ⟨_, l'', l3, hk, hs, hck⟩ | ⟨hc, _⟩
          · exact (pan_false hkp hpan W.run).elim
          · obtain ⟨hdn, hkeep⟩ := keepD_some hk
            refine ins_wpOp (N := H.next) hesz ho (hC _ _ _ W.di.sim W.di.st) hkp (fun x d k v hv => W.di.opval (W.di.odD k hv) hb hD) hG (show insK call rc kp ins L env H _ = true from W.run) W.di.sim (Nat.le_refl _) ?_
            intro v v' φ' H' w' hkn hvr S st
            have I' := chain_DI hone W.di ho hiA hb hdn hvr S st
            obtain ⟨hr3, I3⟩ := chks_run (filtB B i R) l'' l3 (fun r h => h) I' hs (hkeep hkn)
            have W3 : Wait esz gl P ops B N nt mask φ0 H0 w0 env0 a0 call rc kp kn (fun j => (listed.setIfInBounds i true).getD j false = true) φ' (a.put o.dst v') w' q l3 (i :: A) (v :: L) (filtB B i R) (envK mask o.dst v env) H' PH (some i) := by
              refine ⟨by rw [hDeq]; exact I3, hck, hr3, hq, ?_, ?_⟩
              · intro j hj
                rcases W.all j hj with h | h
                · exact .inl (List.mem_cons_of_mem _ h)
                · cases h with
                  | head => exact .inl (List.mem_cons_self ..)
                  | tail _ h => exact .inr h
              · intro j o' d hj ho' hd'
                cases hj with
                | head => rw [ho] at ho'; cases ho'; exact hdn d hd'
                | tail _ hj => exact W.dst j o' d hj ho' hd'
            obtain ⟨p', l', A', L', R', env', H2, PH', lc', W4, hst'⟩   := advance hkp _ _ _ _ _ _ _ _ _ W3
            exact ih _ φ' _ w' p' l' A' L' R' env' H2 PH' lc' hsz' hleft' W4 hst'
          · rw [hcc] at hc; cases hc

/-- a region whose order is drawn -/
theorem drawn_wp (hesz : ∀ t, esz t = P.cellsOf t) (hmix : P.follows .mixedOrders = true) {call : CallT} {rc : AVal} {kp : AVal → EK} {kn : EK} {Q : Exit → Go.Act → World → Prop} {perm : List Nat} {l : List Ins} {id : Nat}
    (hC : ∀ φ H w, Sim esz φ (fun g => gl g = true) H w.heap → Step N φ0 H0 w0 φ H w → CallHere esz (fun g => gl g = true) P call φ H w) (hkp : ∀ v env H, kp v env H = false)
    (hchk : chkR P gl ops (befs ops.toList []) nt mask perm l = true) (hrun : runIns call rc kp l [] env H kn = true) (I : EI P esz nt mask φ env a) (S : Sim esz φ (fun g => gl g = true) H w.heap) (st : Step N φ0 H0 w0 φ H w) (hN : N ≤ H0.next)
    (hQ : ∀ φ env a' w H, EI P esz nt mask φ env a' → Sim esz φ (fun g => gl g = true) H w.heap → Step N φ0 H0 w0 φ H w → a'.defers = a.defers → kn env H = true → Q .normal a' w) :
    (Code.region id ops true).wp P Q a w := by
  simp only [chkR, Bool.and_eq_true] at hchk
  obtain ⟨⟨⟨h1, h2⟩, h3⟩, h4⟩ := hchk
  have hB : ∀ i o, ops[i]? = some o → ∀ j, bef (befs ops.toList []) i j = true → ∃ e ∈ o.after.toList, Region.binds .any e = true ∧ (e.on = j ∨ bef (befs ops.toList []) e.on j = true) := by
    intro i o ho j hj
    obtain ⟨r, e1, e2⟩ := befs_spec ops.toList []
    have e3 := e2 i o (by simpa using ho)
    simp only [List.length_nil, Nat.zero_add] at e3
    unfold bef at hj
    rw [e3] at hj
    obtain ⟨e, k1, k2, k3⟩ := befOne_spec hj
    refine ⟨e, k1, k2, ?_⟩
    rcases k3 with k3 | k3
    · exact .inl k3
    · right
      unfold bef
      rw [List.getD_eq_getElem?_getD] at k3 ⊢
      rw [List.getElem?_take] at k3
      split at k3
      · exact k3
      · simp at k3
  have hsame : Step N φ H w φ H w.drew := ⟨.refl φ, fun _ _ h => ⟨h, rfl, rfl⟩, Nat.le_refl _, rfl, rfl, rfl, Nat.le_refl _, fun _ _ h => ⟨rfl, h⟩⟩
  have W0 : Wait esz gl P ops (befs ops.toList []) N nt mask φ0 H0 w0 env a call rc kp kn (fun i => (Array.replicate ops.size false).getD i false = true) φ a w.drew perm l [] [] [] env H (fun _ _ => False) none := by
    have hno : ∀ i, ¬ ((Array.replicate ops.size false).getD i false = true) := by
      intro i
      rw [Array.getD_eq_getD_getElem?, Array.getElem?_replicate]
      split <;> simp
    refine ⟨{ sim := S, st := st.trans hsame, nx := hN, len := rfl, nodup := List.nodup_nil, da := fun i h => absurd h (hno i), cl := fun i h => absurd h (hno i), ch := fun i h => (by cases h), val := fun i d v h => absurd h (hno i), old := fun t _ => rfl, e0 := fun t v h => (I.ev t v h).2, env := fun t v h => ⟨(I.ev t v h).1, .inr ⟨fun i hi => (by cases hi), h⟩⟩, size := I.size, defs := I.defs, dfs := rfl, pend := fun i h => (by cases h), inj := fun i j x h => h.elim, phlt := fun i x h => h.elim },
      h4, hrun, h1, fun i hi => .inr (cover_iff h2 i hi), fun i o d h => (by cases h)⟩
  obtain ⟨p', l', A', L', R', env', H2, PH', lc', W1, hst⟩   := advance hkp _ _ _ _ _ _ _ _ _ W0
  exact wp_region_any hmix (drawn_run hesz hC hkp h3 h1 h2 hB hQ ops.size _ φ a w.drew p' l' A' L' R' env' H2 PH' lc' (by simp) (left_new _) W1 hst)
end
end Go.Am
