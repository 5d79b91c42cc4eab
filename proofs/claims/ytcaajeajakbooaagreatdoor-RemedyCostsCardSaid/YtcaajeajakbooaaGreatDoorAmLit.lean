/-
  Literals of maps are run as by the model, whatever the order.
-/
import Derived.Test.YtcaajeajakbooaaGreatDoorAmDrw
set_option linter.unusedVariables false
set_option linter.unusedSimpArgs false
namespace Go.Am
open Go

/-! ### a literal of a map: its entries are put down in any order -/
section
variable (P : Program) (gl : Nat → Bool) (ops : Array Oper) (nt mask : Nat)
def memE (j : Nat) : List Edge → Bool
  | [] => false
  | e :: es => (Region.binds .any e && Nat.beq e.on j) || memE j es
def onEdge (o : Oper) (j : Nat) : Bool := memE j o.after.toList
def onAll (o : Oper) : Nat → Bool
  | 0 => true
  | n + 1 => onEdge o n && onAll o n
def edgesLt (n : Nat) : List Edge → Bool
  | [] => true
  | e :: es => (!Region.binds .any e || Nat.blt e.on n) && edgesLt n es
def eLt : Nat → Bool
  | 0 => true
  | n + 1 => (match ops[n]? with | some o => edgesLt n o.after.toList | none => false) && eLt n
def noG (o : Oper) : Bool := match o.guard with | none => true | _ => false
def dstB (o : Oper) (d : Nat) : Bool := match o.dst with | some t => Nat.beq t d | none => false
def tmpIs (x : Operand) (t : Nat) : Bool := match x with | .tmp u => Nat.beq u t | _ => false
def bldOk (o : Oper) (z : List AVal) (ps : List (Nat × Nat)) (vs : List AVal) (key : AVal) (tk : Nat) : Bool :=
  noG o && (Nat.blt tk nt && (!(Nat.testBit mask tk) && (okK P o.op (.build z ps) && (all2 (cstOk gl) (argsOf o.op) vs && (match aBuild z ps vs with | .val k => veq 100 k key | _ => false)))))
def insOk (o : Oper) (e : EqK) (m tk i : Nat) (key v : AVal) : Bool :=
  noG o && ((match o.dst with | none => true | _ => false) && (okK P o.op (.mset e) && (keyOk e key &&
    ((match o.op with | .insert _ a k x => tmpIs a m && (tmpIs k tk && cstOk gl x v) | _ => false) && (onEdge o 0 && onEdge o i)))))
def entOk (e : EqK) (m i : Nat) (key v : AVal) (k : K) (vs : List AVal) : Bool :=
  match ops[i]?, ops[i + 1]?, k with
  | some ob, some oi, .build z ps => (match ob.dst with | some tk => bldOk P gl nt mask ob z ps vs key tk && insOk P gl oi e m tk i key v | none => false)
  | _, _, _ => false
def entsOk (e : EqK) (m : Nat) : List (AVal × AVal × Nat) → List (K × List AVal) → Nat → Bool
  | [], [], _ => true
  | (key, v, _) :: es, (k, vs) :: hs, i => entOk P gl ops nt mask e m i key v k vs && entsOk e m es hs (i + 2)
  | _, _, _ => false
def chkM (l : List Ins) : Bool :=
  match l with
  | [.mlit e es hs d1 d2] =>
    (match ops[0]?, ops[2 * es.length + 1]?, ops[2 * es.length + 2]? with
    | some o0, some o1, some o2 =>
      Nat.beq ops.size (2 * es.length + 3) && ((oneW ops ops.size && eLt ops ops.size) && (noG o0 && (okK P o0.op .mkMap && (match o0.dst with
        | some m => Nat.blt m nt && (!(Nat.testBit mask m) && (entsOk P gl ops nt mask e m es hs 1 &&
          (noG o1 && ((match o1.op with | .move x => tmpIs x m | _ => false) && (dstB o1 d1 && (onAll o1 (2 * es.length + 1) && (Nat.blt d1 nt && (!(Nat.testBit mask d1) &&
          (noG o2 && ((match o2.op with | .assign x => tmpIs x d1 | _ => false) && (dstB o2 d2 && (onAll o2 (2 * es.length + 2) && (Nat.blt d2 nt && Nat.testBit mask d2)))))))))))))
        | none => false))))
    | _, _, _ => false)
  | _ => false
end

section
variable {esz : TypeId → Nat} {gl : Nat → Bool} {P : Program} {ops : Array Oper} {N nt mask : Nat}

theorem memE_iff {j : Nat} : ∀ {es : List Edge}, memE j es = true → ∃ e ∈ es, Region.binds .any e = true ∧ e.on = j
  | [], h => by cases h
  | e :: es, h => by
    simp only [memE, Bool.or_eq_true, Bool.and_eq_true, beqN] at h
    rcases h with h | h
    · exact ⟨e, List.mem_cons_self .., h.1, h.2⟩
    · obtain ⟨e', h1, h2⟩ := memE_iff h
      exact ⟨e', List.mem_cons_of_mem _ h1, h2⟩
theorem onAll_iff {o : Oper} : ∀ {n : Nat}, onAll o n = true → ∀ j, j < n → onEdge o j = true
  | 0, _, j, hj => by omega
  | n + 1, h, j, hj => by
    simp only [onAll, Bool.and_eq_true] at h
    by_cases e : j = n
    · subst e; exact h.1
    · exact onAll_iff h.2 j (by omega)
theorem edgesLt_iff {n : Nat} : ∀ {es : List Edge}, edgesLt n es = true → ∀ e ∈ es, Region.binds .any e = true → e.on < n
  | [], _, e, he, _ => by cases he
  | e' :: es, h, e, he, hb => by
    simp only [edgesLt, Bool.and_eq_true, Bool.or_eq_true, Bool.not_eq_true', bltN] at h
    cases he with
    | head =>
      rcases h.1 with h1 | h1
      · rw [hb] at h1; cases h1
      · exact h1
    | tail _ he => exact edgesLt_iff h.2 e he hb
theorem eLt_iff : ∀ {n : Nat}, eLt ops n = true → ∀ i, i < n → ∃ o, ops[i]? = some o ∧ ∀ e ∈ o.after.toList, Region.binds .any e = true → e.on < i
  | 0, _, i, hi => by omega
  | n + 1, h, i, hi => by
    simp only [eLt, Bool.and_eq_true] at h
    by_cases e : i = n
    · subst e
      have h1 := h.1
      cases ho : ops[i]? with
      | none => rw [ho] at h1; cases h1
      | some o => rw [ho] at h1; exact ⟨o, rfl, edgesLt_iff h1⟩
    · exact eLt_iff h.2 i (by omega)
theorem noG_iff {o : Oper} (h : noG o = true) : o.guard = none := by
  unfold noG at h
  split at h
  · assumption
  · cases h
theorem tmpIs_iff {x : Operand} {t : Nat} (h : tmpIs x t = true) : x = .tmp t := by
  unfold tmpIs at h
  split at h
  · rw [beqN] at h; rw [h]
  · cases h
theorem dstB_iff {o : Oper} {d : Nat} (h : dstB o d = true) : o.dst = some d := by
  unfold dstB at h
  split at h
  · rename_i t e; rw [beqN] at h; rw [e, h]
  · cases h

structure EntF (P : Program) (gl : Nat → Bool) (ops : Array Oper) (nt mask : Nat) (e : EqK) (m i : Nat) (key v : AVal) (tk : Nat) : Prop where
  bld : ∃ ob z ps vs, ops[i]? = some ob ∧ ob.guard = none ∧ ob.dst = some tk ∧ okK P ob.op (.build z ps) = true ∧ all2 (cstOk gl) (argsOf ob.op) vs = true ∧ actK (.build z ps) vs = .val key
  ins : ∃ oi t x, ops[i + 1]? = some oi ∧ oi.guard = none ∧ oi.dst = none ∧ okK P oi.op (.mset e) = true ∧ keyOk e key = true ∧ oi.op = .insert t (.tmp m) (.tmp tk) x ∧ cstOk gl x v = true ∧ onEdge oi 0 = true ∧ onEdge oi i = true
  tk : tk < nt ∧ Nat.testBit mask tk = false
theorem entOk_iff {e : EqK} {m i : Nat} {key v : AVal} {k : K} {vs : List AVal} (h : entOk P gl ops nt mask e m i key v k vs = true) : ∃ tk, EntF P gl ops nt mask e m i key v tk := by
  unfold entOk at h
  split at h
  · rename_i ob oi z ps hb hi
    split at h
    · rename_i tk hd
      simp only [Bool.and_eq_true, bldOk, insOk, bltN, Bool.not_eq_true'] at h
      obtain ⟨⟨a1, a2, a3, a4, a5, a6⟩, b1, b2, b3, b4, b5, b6, b7⟩ := h
      refine ⟨tk, ⟨ob, z, ps, vs, hb, noG_iff a1, hd, a4, a5, ?_⟩, ?_, a2, a3⟩
      · show aBuild z ps vs = .val key
        split at a6
        · rename_i k' e1; rw [e1, veq_eq _ _ _ a6]
        · cases a6
      · split at b5
        · rename_i t a k' x hop
          simp only [Bool.and_eq_true] at b5
          obtain ⟨c1, c2, c3⟩ := b5
          rw [tmpIs_iff c1, tmpIs_iff c2] at hop
          refine ⟨oi, t, x, hi, noG_iff b1, ?_, b3, b4, hop, c3, b6, b7⟩
          split at b2
          · assumption
          · cases b2
        · cases b5
    · cases h
  · cases h
theorem entsOk_iff {e : EqK} {m : Nat} : ∀ {es : List (AVal × AVal × Nat)} {hs : List (K × List AVal)} {i : Nat}, entsOk P gl ops nt mask e m es hs i = true →
    ∀ j key v b, es[j]? = some (key, v, b) → ∃ tk, EntF P gl ops nt mask e m (i + 2 * j) key v tk
  | [], _, _, _, j, key, v, b, hj => by simp at hj
  | (k0, v0, b0) :: es, [], i, h, _, _, _, _, _ => by cases h
  | (k0, v0, b0) :: es, (k, vs) :: hs, i, h, j, key, v, b, hj => by
    simp only [entsOk, Bool.and_eq_true] at h
    cases j with
    | zero =>
      simp at hj
      obtain ⟨rfl, rfl, rfl⟩ := hj
      exact entOk_iff h.1
    | succ j =>
      obtain ⟨tk, h1⟩ := entsOk_iff h.2 j key v b (by simpa using hj)
      exact ⟨tk, by rw [show i + 2 * (j + 1) = i + 2 + 2 * j by omega]; exact h1⟩

structure LitF (P : Program) (gl : Nat → Bool) (ops : Array Oper) (nt mask : Nat) (e : EqK) (es : List (AVal × AVal × Nat)) (d1 d2 m : Nat) : Prop where
  size : ops.size = 2 * es.length + 3
  one : oneW ops ops.size = true
  elt : eLt ops ops.size = true
  mkm : ∃ o, ops[0]? = some o ∧ o.guard = none ∧ o.dst = some m ∧ okK P o.op .mkMap = true
  mt : m < nt ∧ Nat.testBit mask m = false
  ent : ∀ j key v b, es[j]? = some (key, v, b) → ∃ tk, EntF P gl ops nt mask e m (1 + 2 * j) key v tk
  mv1 : ∃ o, ops[2 * es.length + 1]? = some o ∧ o.guard = none ∧ o.dst = some d1 ∧ o.op = .move (.tmp m) ∧ (∀ j, j < 2 * es.length + 1 → onEdge o j = true)
  t1 : d1 < nt ∧ Nat.testBit mask d1 = false
  mv2 : ∃ o, ops[2 * es.length + 2]? = some o ∧ o.guard = none ∧ o.dst = some d2 ∧ o.op = .assign (.tmp d1) ∧ (∀ j, j < 2 * es.length + 2 → onEdge o j = true)
  t2 : d2 < nt ∧ Nat.testBit mask d2 = true
theorem chkM_iff {l : List Ins} (h : chkM P gl ops nt mask l = true) : ∃ e es hs d1 d2 m, l = [.mlit e es hs d1 d2] ∧ LitF P gl ops nt mask e es d1 d2 m := by
  cases l with
  | nil => cases h
  | cons i l =>
  cases l with
  | cons _ _ => cases i <;> cases h
  | nil =>
  cases i <;> first | (cases h; done) | skip
  rename_i e es hs d1 d2
  simp only [chkM] at h
  cases h0 : ops[0]? with
  | none => rw [h0] at h; cases h
  | some o0 =>
  cases h1 : ops[2 * es.length + 1]? with
  | none => rw [h0, h1] at h; cases h
  | some o1 =>
  cases h2 : ops[2 * es.length + 2]? with
  | none => rw [h0, h1, h2] at h; cases h
  | some o2 =>
  rw [h0, h1, h2] at h
  simp only [Bool.and_eq_true, beqN] at h
  obtain ⟨a1, ⟨a2, a5⟩, a3, a4, h⟩ := h
  cases hm : o0.dst with
  | none => rw [hm] at h; cases h
  | some m =>
  rw [hm] at h
  simp only [Bool.and_eq_true, bltN, Bool.not_eq_true'] at h
  obtain ⟨b1, b2, b3, b4, b5, b6, b7, b8, b9, c1, c2, c3, c4, c5, c6⟩ := h
  have hop1 : o1.op = .move (.tmp m) := by
    cases hop : o1.op <;> rw [hop] at b5 <;> simp only at b5 <;> first | (cases b5; done) | skip
    rw [tmpIs_iff b5]
  have hop2 : o2.op = .assign (.tmp d1) := by
    cases hop : o2.op <;> rw [hop] at c2 <;> simp only at c2 <;> first | (cases c2; done) | skip
    rw [tmpIs_iff c2]
  exact ⟨e, es, hs, d1, d2, m, rfl, a1, a2, a5, ⟨o0, h0, noG_iff a3, hm, a4⟩, ⟨b1, b2⟩, fun j key v b hj => entsOk_iff b3 j key v b hj, ⟨o1, h1, noG_iff b4, dstB_iff b6, hop1, onAll_iff b7⟩, ⟨b8, b9⟩,
    ⟨o2, h2, noG_iff c1, dstB_iff c3, hop2, onAll_iff c4⟩, ⟨c5, c6⟩⟩

/-- tries: the later entry stays -/
theorem put_put {α : Type} (n : Nat) : ∀ (t : Trie α) (k : Nat) (a b : α), Trie.put n (Trie.put n t k a) k b = Trie.put n t k b := by
  induction n with
  | zero => intro t k a b; rfl
  | succ n ih =>
    intro t k a b
    rw [Trie.put_succ, Trie.put_succ n t k b]
    rw [Trie.put_succ n t k a]
    cases t <;> by_cases h0 : k = 0 <;> by_cases h1 : k % 2 = 1 <;> simp [h0, h1, ih]
theorem newObj_setObj (H : AHeap) (a b : AObj) : (H.newObj a).setObj H.next b = H.newObj b := by
  cases H with
  | mk n o g =>
    show AHeap.mk (Nat.succ n) ((o.set n a).set n b) g = AHeap.mk (Nat.succ n) (o.set n b) g
    unfold Trie.set
    rw [put_put]
end
end Go.Am

namespace Go.Am
open Go

section
variable {esz : TypeId → Nat} {gl : Nat → Bool} {P : Program} {ops : Array Oper} {N nt mask : Nat}

/-- the entries put down so far, in their order -/
def esJ (es : List (AVal × AVal × Nat)) (J : List Nat) (k : Nat) : List (AVal × AVal × Nat) :=
  match J with
  | [] => []
  | j :: J => (match es[j]? with | some (key, v, _) => (key, v, k) | none => (.any, .any, k)) :: esJ es J (k + 1)
theorem esJ_snoc {es : List (AVal × AVal × Nat)} {j : Nat} {key v : AVal} {b : Nat} (h : es[j]? = some (key, v, b)) : ∀ (J : List Nat) (k : Nat), esJ es (J ++ [j]) k = esJ es J k ++ [(key, v, k + J.length)]
  | [], k => by simp [esJ, h]
  | i :: J, k => by
    simp only [List.cons_append, esJ, esJ_snoc h J (k + 1), List.length_cons]
    rw [show k + 1 + J.length = k + (J.length + 1) by omega]
theorem esJ_mem {es : List (AVal × AVal × Nat)} : ∀ {J : List Nat} {k : Nat} {x : AVal × AVal × Nat}, (∀ j ∈ J, j < es.length) → x ∈ esJ es J k → ∃ j ∈ J, ∃ b, es[j]? = some (x.1, x.2.1, b)
  | [], k, x, _, h => by simp [esJ] at h
  | j :: J, k, x, hJ, h => by
    simp only [esJ, List.mem_cons] at h
    rcases h with h | h
    · have hj := hJ j (List.mem_cons_self ..)
      rw [List.getElem?_eq_getElem hj] at h
      simp only at h
      subst h
      exact ⟨j, List.mem_cons_self .., (es[j]).2.2, by rw [List.getElem?_eq_getElem hj]⟩
    · obtain ⟨j', h1, b, h2⟩ := esJ_mem (fun j hj => hJ j (List.mem_cons_of_mem _ hj)) h
      exact ⟨j', List.mem_cons_of_mem _ h1, b, h2⟩

/-- an entry without its stamp -/
def bare (x : AVal × AVal × Nat) : AVal × AVal × Nat := (x.1, x.2.1, 0)
theorem esJ_bare {es : List (AVal × AVal × Nat)} : ∀ {J : List Nat} {k : Nat}, (∀ j ∈ J, j < es.length) → (esJ es J k).map bare = J.map (fun j => bare (es.getD j (.any, .any, 0)))
  | [], k, _ => rfl
  | j :: J, k, hJ => by
    have hj := hJ j (List.mem_cons_self ..)
    simp only [esJ, List.map_cons]
    rw [esJ_bare (fun j hj => hJ j (List.mem_cons_of_mem _ hj))]
    rw [List.getElem?_eq_getElem hj, List.getD_eq_getElem?_getD, List.getElem?_eq_getElem hj]
    rfl
theorem range_getD {α : Type} (l : List α) (d : α) : (List.range l.length).map (fun j => l.getD j d) = l := by
  apply List.ext_getElem?
  intro j
  rw [List.getElem?_map]
  rcases Nat.lt_or_ge j l.length with h | h
  · rw [List.getElem?_range h, List.getElem?_eq_getElem h]
    simp [List.getD_eq_getElem?_getD, h]
  · rw [List.getElem?_eq_none (by simpa using h), List.getElem?_eq_none h]; rfl

theorem All2.flip {α β : Type} {R : α → β → Prop} : ∀ {l : List α} {m : List β}, All2 R l m → All2 (fun b a => R a b) m l
  | _, _, .nil => .nil
  | _, _, .cons h t => .cons h (All2.flip t)
theorem All2.map_left {α α' β : Type} {R : α → β → Prop} {S : α' → β → Prop} {f : α → α'} (hf : ∀ a b, R a b → S (f a) b) : ∀ {l : List α} {m : List β}, All2 R l m → All2 S (l.map f) m
  | _, _, .nil => .nil
  | _, _, .cons h t => .cons (hf _ _ h) (All2.map_left hf t)
theorem All2.map_left' {α α' β : Type} {R : α → β → Prop} {S : α' → β → Prop} {f : α → α'} (hf : ∀ a b, S (f a) b → R a b) : ∀ {l : List α} {m : List β}, All2 S (l.map f) m → All2 R l m
  | [], _, h => by cases h; exact .nil
  | a :: l, _, h => by cases h with | cons h t => exact .cons (hf _ _ h) (All2.map_left' hf t)

/-- the map's entries, put down in some order, are the literal's -/
theorem lit_perm {φ : Phi} {es : List (AVal × AVal × Nat)} {J : List Nat} {l : List MapEntry} (hn : J.Nodup) (hJ : ∀ j, j ∈ J ↔ j < es.length) (h : All2 (ERelB esz φ) (esJ es J 0) l) :
    ∃ l', l'.Perm l ∧ All2 (ERel esz φ) es l' := by
  have hp : J.Perm (List.range es.length) := (List.perm_ext_iff_of_nodup hn List.nodup_range).2 fun j => by rw [hJ, List.mem_range]
  have h1 : All2 (ERel esz φ) ((esJ es J 0).map bare) l := h.map_left fun a b r => ⟨r.key, r.val⟩
  rw [esJ_bare (fun j hj => (hJ j).1 hj)] at h1
  have h2 : (J.map (fun j => bare (es.getD j (.any, .any, 0)))).Perm ((List.range es.length).map (fun j => bare (es.getD j (.any, .any, 0)))) := hp.map _
  have h3 : (List.range es.length).map (fun j => bare (es.getD j (.any, .any, 0))) = es.map bare := by
    have := congrArg (List.map bare) (range_getD es (.any, .any, 0))
    rw [List.map_map] at this
    exact this
  rw [h3] at h2
  obtain ⟨l', e1, e2⟩ := All2.perm h2 h1.flip
  exact ⟨l', e1.symm, e2.flip.map_left' fun a b r => ⟨r.key, r.val⟩⟩

variable {φ0 : Phi} {H0 : AHeap} {w0 : World} {φb : Phi} {Hb : AHeap} {env0 : Env} {a0 : Go.Act} {e : EqK} {es : List (AVal × AVal × Nat)} {d1 d2 m : Nat}

structure MI (P : Program) (esz : TypeId → Nat) (gl : Nat → Bool) (ops : Array Oper) (N nt : Nat) (φ0 : Phi) (H0 : AHeap) (w0 : World) (φb : Phi) (Hb : AHeap) (a0 : Go.Act) (es : List (AVal × AVal × Nat)) (d1 d2 m : Nat)
    (D : Nat → Prop) (φ : Phi) (a : Go.Act) (w : World) (J : List Nat) : Prop where
  ext : Ext φb φ
  p0 : ¬ D 0 → φ = φb ∧ Sim esz φ (fun g => gl g = true) Hb w.heap ∧ Step N φ0 H0 w0 φ Hb w
  p1 : D 0 → ∃ p, φ Hb.next = some p ∧ Sim esz φ (fun g => gl g = true) (Hb.newObj (.map (esJ es J 0) J.length false)) w.heap ∧ Step N φ0 H0 w0 φ (Hb.newObj (.map (esJ es J 0) J.length false)) w ∧
    a.eval (.tmp m) = .map (some p.blk) ∧ (D (2 * es.length + 1) → a.eval (.tmp d1) = .map (some p.blk)) ∧ (D (2 * es.length + 2) → a.eval (.tmp d2) = .map (some p.blk))
  nodup : J.Nodup
  jd : ∀ j, j ∈ J ↔ (j < es.length ∧ D (2 * j + 2))
  cl : ∀ j, j < es.length → D (2 * j + 2) → D 0
  cl1 : D (2 * es.length + 1) → ∀ j, j < 2 * es.length + 1 → D j
  cl2 : D (2 * es.length + 2) → ∀ j, j < 2 * es.length + 2 → D j
  bld : ∀ j key v b tk, es[j]? = some (key, v, b) → D (2 * j + 1) → dstO ops (2 * j + 1) = some tk → VRel esz φ key (a.eval (.tmp tk))
  old : ∀ t, (∀ i, D i → dstO ops i ≠ some t) → a.eval (.tmp t) = a0.eval (.tmp t)
  size : nt ≤ a.tmps.size
  defs : ∀ d ∈ a.defers, NopD P d

theorem cst_vals {heap : Array Obj} {φ : Phi} {H : AHeap} {a : Go.Act} (S : Sim esz φ (fun g => gl g = true) H heap) : ∀ {xs : List Operand} {vs : List AVal}, all2 (cstOk gl) xs vs = true → VRels esz φ vs (xs.map a.eval)
  | [], [], _ => .nil
  | [], _ :: _, h => by cases h
  | _ :: _, [], h => by cases h
  | x :: xs, v :: vs, h => by
    simp only [all2, Bool.and_eq_true] at h
    exact .cons (cstOk_rel S h.1) (cst_vals S h.2)

theorem lit_end {φ : Phi} {w : World} {J : List Nat} {p : PI} (hn : J.Nodup) (hJ : ∀ j, j ∈ J ↔ j < es.length) (hd : distinct es = true) (hp : φ Hb.next = some p)
    (S : Sim esz φ (fun g => gl g = true) (Hb.newObj (.map (esJ es J 0) J.length false)) w.heap) (st : Step N φ0 H0 w0 φ (Hb.newObj (.map (esJ es J 0) J.length false)) w) :
    Sim esz φ (fun g => gl g = true) (Hb.newObj (.map es 0 true)) w.heap ∧ Step N φ0 H0 w0 φ (Hb.newObj (.map es 0 true)) w := by
  have ho : (Hb.newObj (.map (esJ es J 0) J.length false)).objs.get Hb.next = some (.map (esJ es J 0) J.length false) := by simp
  obtain ⟨es', h1, h2⟩ := map_obj S ho hp
  have hset : w.heap.setIfInBounds p.blk (.map es' J.length) = w.heap := by
    apply Array.ext_getElem?
    intro i
    rw [Array.getElem?_setIfInBounds]
    split
    · rename_i e; subst e
      split
      · exact h1.symm
      · rename_i h; exact absurd (S.bnd _ _ hp) h
    · rfl
  obtain ⟨l', e1, e2⟩ := lit_perm hn hJ h2
  have hor : ORel esz φ (Hb.newObj (.map (esJ es J 0) J.length false)) p (w.heap.setIfInBounds p.blk (.map es' J.length)) (.map es 0 true) := by
    rw [hset]
    exact ⟨es', J.length, h1, l', e1, e2, hd⟩
  have hS := S.setObj ho hp rfl rfl hor
  have hT : Step N φ (Hb.newObj (.map (esJ es J 0) J.length false)) w φ ((Hb.newObj (.map (esJ es J 0) J.length false)).setObj Hb.next (.map es 0 true)) w :=
    Step.setObj ho hp rfl rfl hset.symm rfl rfl rfl
  rw [newObj_setObj] at hS hT
  rw [hset] at hS
  exact ⟨hS, st.trans hT⟩

theorem least_not {D : Nat → Prop} : ∀ (n i : Nat), i < n → ¬ D i → ∃ k, k < n ∧ ¬ D k ∧ ∀ j, j < k → D j
  | 0, i, hi, _ => by omega
  | n + 1, i, hi, h => by
    by_cases hn : ∃ i, i < n ∧ ¬ D i
    · obtain ⟨i, h1, h2⟩ := hn
      obtain ⟨k, k1, k2⟩ := least_not n i h1 h2
      exact ⟨k, by omega, k2⟩
    · refine ⟨i, hi, h, fun j hj => ?_⟩
      apply Classical.byContradiction
      intro hj2
      exact hn ⟨j, by omega, hj2⟩

theorem eval_new {o : Oper} {a : Go.Act} {d t : Nat} {v : Value} (hd : o.dst = some d) (h : t ≠ d) : (a.put o.dst v).eval (.tmp t) = a.eval (.tmp t) := by
  rw [hd]; exact put_other (fun e => by cases e; exact h rfl)

theorem lit_run (hesz : ∀ t, esz t = P.cellsOf t) (F : LitF P gl ops nt mask e es d1 d2 m) (hdis : distinct es = true) (hN : N ≤ H0.next) {Q : Exit → Go.Act → World → Prop}
    (hQ : ∀ φ a w, a.eval (.tmp d2) = .map (some ((φ Hb.next).getD ⟨0, 0, 0, 0⟩).blk) → (∃ p, φ Hb.next = some p) → Ext φb φ → (∀ t, Nat.testBit mask t = true → t ≠ d2 → a.eval (.tmp t) = a0.eval (.tmp t)) → nt ≤ a.tmps.size → (∀ d ∈ a.defers, NopD P d) →
      Sim esz φ (fun g => gl g = true) (Hb.newObj (.map es 0 true)) w.heap → Step N φ0 H0 w0 φ (Hb.newObj (.map es 0 true)) w → Q .normal a w) :
    ∀ (fuel : Nat) (listed : Array Bool) (φ : Phi) (a : Go.Act) (w : World) (J : List Nat), listed.size = ops.size → left listed = fuel →
      MI P esz gl ops N nt φ0 H0 w0 φb Hb a0 es d1 d2 m (fun i => listed.getD i false = true) φ a w J → wpAny P .any ops Q fuel listed a w := by
  have hsz := F.size
  obtain ⟨om, hom, hgm, hdm, hkm⟩ := F.mkm
  obtain ⟨o1, ho1, hg1, hd1, hop1, hall1⟩ := F.mv1
  obtain ⟨o2, ho2, hg2, hd2, hop2, hall2⟩ := F.mv2
  have hD0 : dstO ops 0 = some m := by simp [dstO, hom, hdm]
  have hD1 : dstO ops (2 * es.length + 1) = some d1 := by simp [dstO, ho1, hd1]
  have hD2 : dstO ops (2 * es.length + 2) = some d2 := by simp [dstO, ho2, hd2]
  have uniq : ∀ {i j t : Nat}, dstO ops i = some t → dstO ops j = some t → i = j := fun hi hj => oneW_iff F.one _ _ (dstO_lt hi) (dstO_lt hj) hi hj
  have dist := distinct_iff hdis
  -- the end
  have fin : ∀ (listed : Array Bool) (φ : Phi) (a : Go.Act) (w : World) (J : List Nat), MI P esz gl ops N nt φ0 H0 w0 φb Hb a0 es d1 d2 m (fun i => listed.getD i false = true) φ a w J →
      (∀ i, i < ops.size → listed.getD i false = true) → Q .normal a w := by
    intro listed φ a w J I hall
    obtain ⟨p, h1, h2, h3, h4, h5, h6⟩ := I.p1 (hall 0 (by omega))
    have hJ : ∀ j, j ∈ J ↔ j < es.length := fun j => by
      rw [I.jd]
      exact ⟨fun h => h.1, fun h => ⟨h, hall _ (by omega)⟩⟩
    obtain ⟨k1, k2⟩ := lit_end I.nodup hJ hdis h1 h2 h3
    refine hQ φ a w (by rw [h1]; exact h6 (hall _ (by omega))) ⟨p, h1⟩ I.ext ?_ I.size I.defs k1 k2
    intro t ht htd
    refine I.old t fun i hi hd => ?_
    have hlt := dstO_lt hd
    rw [hsz] at hlt
    rcases Nat.lt_or_ge i (2 * es.length + 1) with hi1 | hi1
    · rcases Nat.eq_zero_or_pos i with rfl | hpos
      · rw [hD0] at hd; cases hd; rw [F.mt.2] at ht; cases ht
      · have hj : (i - 1) / 2 < es.length := by omega
        obtain ⟨tk, E⟩ := F.ent ((i - 1) / 2) _ _ _ (List.getElem?_eq_getElem hj)
        obtain ⟨ob, _, _, _, hb1, _, hb2, _⟩ := E.bld
        obtain ⟨oi, _, _, hi2, _, hi3, _⟩ := E.ins
        rcases Nat.mod_two_eq_zero_or_one i with hm2 | hm2
        · have : i = 1 + 2 * ((i - 1) / 2) + 1 := by omega
          rw [this] at hd
          simp [dstO, hi2, hi3] at hd
        · have : i = 1 + 2 * ((i - 1) / 2) := by omega
          rw [this] at hd
          simp [dstO, hb1, hb2] at hd
          subst hd
          rw [E.tk.2] at ht; cases ht
    · rcases Nat.eq_or_lt_of_le hi1 with rfl | hi2
      · rw [hD1] at hd; cases hd; rw [F.t1.2] at ht; cases ht
      · have : i = 2 * es.length + 2 := by omega
        subst this
        rw [hD2] at hd; cases hd; exact htd rfl
  intro fuel
  induction fuel with
  | zero =>
    intro listed φ a w J hls hleft I
    have hall : ∀ i, i < ops.size → listed.getD i false = true := fun i hi => left_zero hleft i (by rw [hls]; exact hi)
    refine ⟨?_, fin listed φ a w J I hall⟩
    unfold Region.ready
    rw [List.filter_eq_nil_iff]
    intro i hi
    rw [List.mem_range] at hi
    have h1 := hall i hi
    have : listed.getD i true = true := by
      rw [Array.getD_eq_getD_getElem?] at h1 ⊢
      rw [Array.getElem?_eq_getElem (by omega)] at h1 ⊢
      exact h1
    simp [this]
  | succ fuel ih =>
    intro listed φ a w J hls hleft I
    refine ⟨?_, ?_⟩
    · intro hr
      refine fin listed φ a w J I fun i hi => ?_
      apply Classical.byContradiction
      intro h
      obtain ⟨k, k1, k2, k3⟩ := least_not (D := fun i => listed.getD i false = true) ops.size i hi h
      obtain ⟨o, ho, he⟩ := eLt_iff F.elt k k1
      have hmem : k ∈ Region.ready .any ops listed := by
        unfold Region.ready
        rw [List.mem_filter, List.mem_range]
        refine ⟨k1, ?_⟩
        have h5 : listed.getD k true = false := by
          rw [Array.getD_eq_getD_getElem?] at k2 ⊢
          rw [Array.getElem?_eq_getElem (by omega)] at k2 ⊢
          simpa using k2
        rw [h5, ho]
        simp only [Bool.not_false, Bool.true_and, Option.map_some, Option.getD_some]
        rw [Array.all_eq_true']
        intro e' he'
        rw [Bool.or_eq_true, Bool.not_eq_true']
        by_cases hb : Region.binds .any e' = true
        · exact .inr (k3 _ (he e' (by simpa using he') hb))
        · exact .inl (by simpa using hb)
      rw [hr] at hmem
      cases hmem
    · intro i hmem
      unfold Region.ready at hmem
      rw [List.mem_filter, List.mem_range] at hmem
      obtain ⟨hi, hmem⟩ := hmem
      rw [Bool.and_eq_true, Bool.not_eq_true'] at hmem
      obtain ⟨hl1, hl2⟩ := hmem
      have hD : ¬ (listed.getD i false = true) := by
        rw [Array.getD_eq_getD_getElem?] at hl1 ⊢
        rw [Array.getElem?_eq_getElem (by omega)] at hl1 ⊢
        simpa using hl1
      have hedge : ∀ {o : Oper}, ops[i]? = some o → ∀ j, onEdge o j = true → listed.getD j false = true := by
        intro o ho j hj
        rw [ho] at hl2
        simp only [Option.map_some, Option.getD_some] at hl2
        rw [Array.all_eq_true'] at hl2
        obtain ⟨e', he', h1, rfl⟩ := memE_iff hj
        have := hl2 e' (by simpa using he')
        rw [Bool.or_eq_true, Bool.not_eq_true', h1] at this
        simpa using this
      have hset : ∀ j, (listed.setIfInBounds i true).getD j false = true ↔ (listed.getD j false = true ∨ j = i) := by
        intro j
        rw [Array.getD_eq_getD_getElem?, Array.getD_eq_getD_getElem?, Array.getElem?_setIfInBounds]
        by_cases e : i = j
        · subst e
          simp [hls, hi]
        · rw [if_neg e]
          constructor
          · exact .inl
          · rintro (h | h)
            · exact h
            · exact absurd h.symm e
      have hsz' : (listed.setIfInBounds i true).size = ops.size := by simpa using hls
      have hleft' : left (listed.setIfInBounds i true) = fuel := by
        have := left_set hl1
        omega
      -- what is done with the new state
      have go : ∀ {o : Oper} {φ' : Phi} {a' : Go.Act} {w' : World} {J' : List Nat}, MI P esz gl ops N nt φ0 H0 w0 φb Hb a0 es d1 d2 m (fun j => listed.getD j false = true ∨ j = i) φ' a' w' J' →
          wpAny P .any ops Q fuel (listed.setIfInBounds i true) a' w' := by
        intro o φ' a' w' J' I'
        refine ih _ φ' a' w' J' hsz' hleft' ?_
        rw [show (fun j => (listed.setIfInBounds i true).getD j false = true) = (fun j => listed.getD j false = true ∨ j = i) from funext fun j => propext (hset j)]
        exact I'
      have anyS : ∃ H, Sim esz φ (fun g => gl g = true) H w.heap := by
        by_cases h : listed.getD 0 false = true
        · obtain ⟨p, _, h2, _⟩ := I.p1 h; exact ⟨_, h2⟩
        · exact ⟨_, (I.p0 h).2.1⟩
      -- an operation that only puts down a value
      have put : ∀ {o : Oper} {d : Nat} {v : Value}, ops[i]? = some o → o.guard = none → o.dst = some d → d < nt → (execOp a.eval o).run P w = .ok (.value v) w → i ≠ 0 → (∀ j, i ≠ 2 * j + 2 ∨ ¬ j < es.length) →
          (∀ j key v0 b, es[j]? = some (key, v0, b) → i = 2 * j + 1 → VRel esz φ key v) →
          (i = 2 * es.length + 1 → (∀ j, j < 2 * es.length + 1 → listed.getD j false = true) ∧ v = a.eval (.tmp m)) →
          (i = 2 * es.length + 2 → (∀ j, j < 2 * es.length + 2 → listed.getD j false = true) ∧ v = a.eval (.tmp d1)) → wpOp P ops Q i (wpAny P .any ops Q fuel (listed.setIfInBounds i true)) a w := by
        intro o d v ho hg hd hdt hrun hi0 hins hb h1 h2
        have hdi : dstO ops i = some d := by simp [dstO, ho, hd]
        have hne : ∀ {j t : Nat}, dstO ops j = some t → j ≠ i → t ≠ d := fun hj hji e => hji (uniq hj (e ▸ hdi))
        unfold wpOp
        simp only [ho]
        rw [if_pos (by simp [Region.wanted, hg])]
        left
        unfold Oper.wp
        rw [hrun, Oper.upon_value]
        refine go (o := o) (φ' := φ) (J' := J) ?_
        have hself : (a.put o.dst v).eval (.tmp d) = v := by rw [hd]; exact put_self (Nat.lt_of_lt_of_le hdt I.size)
        refine { ext := I.ext, p0 := fun h => I.p0 (fun h' => h (.inl h')), p1 := ?_, nodup := I.nodup, jd := ?_, cl := ?_, cl1 := ?_, cl2 := ?_, bld := ?_, old := ?_, size := by rw [put_size]; exact I.size, defs := by rw [put_defers]; exact I.defs }
        · rintro (h0 | h0)
          · obtain ⟨p, e1, e2, e3, e4, e5, e6⟩ := I.p1 h0
            refine ⟨p, e1, e2, e3, ?_, ?_, ?_⟩
            · rw [eval_new hd (hne hD0 (fun e => hi0 e.symm))]; exact e4
            · rintro (h | h)
              · rw [eval_new hd (hne hD1 (fun e => hD (e ▸ h)))]; exact e5 h
              · subst h
                rw [hD1] at hdi; cases hdi
                rw [hself, (h1 rfl).2]; exact e4
            · rintro (h | h)
              · rw [eval_new hd (hne hD2 (fun e => hD (e ▸ h)))]; exact e6 h
              · subst h
                rw [hD2] at hdi; cases hdi
                rw [hself, (h2 rfl).2]; exact e5 ((h2 rfl).1 _ (by omega))
          · exact absurd h0.symm hi0
        · intro j
          rw [I.jd]
          constructor
          · exact fun h => ⟨h.1, .inl h.2⟩
          · rintro ⟨h, h' | h'⟩
            · exact ⟨h, h'⟩
            · rcases hins j with k | k
              · exact absurd h'.symm k
              · exact absurd h k
        · rintro j hj (h | h)
          · exact .inl (I.cl j hj h)
          · rcases hins j with k | k
            · exact absurd h.symm k
            · exact absurd hj k
        · rintro (h | h) j hj
          · exact .inl (I.cl1 h j hj)
          · exact .inl ((h1 h.symm).1 j hj)
        · rintro (h | h) j hj
          · exact .inl (I.cl2 h j hj)
          · exact .inl ((h2 h.symm).1 j hj)
        · rintro j key v0 b tk hj (h | h) htk
          · rw [eval_new hd (hne htk (fun e => hD (e ▸ h)))]; exact I.bld j key v0 b tk hj h htk
          · subst h
            rw [htk] at hdi; cases hdi
            rw [hself]
            exact hb j key v0 b hj rfl
        · intro t ht
          have : t ≠ d := fun e => ht i (.inr rfl) (e ▸ hdi)
          rw [eval_new hd this]
          exact I.old t fun j hj => ht j (.inl hj)
      rw [hsz] at hi
      rcases Nat.lt_or_ge i (2 * es.length + 1) with hi1 | hi1
      · rcases Nat.eq_zero_or_pos i with rfl | hpos
        · -- the map is made
          obtain ⟨hφ, S, st⟩ := I.p0 hD
          have hJ : J = [] := by
            cases J with
            | nil => rfl
            | cons j J =>
              obtain ⟨h1, h2⟩ := (I.jd j).1 (List.mem_cons_self ..)
              exact absurd (I.cl j h1 h2) hD
          subst hJ
          have hNb : N ≤ Hb.next := Nat.le_trans hN st.next
          have hnew := new_mkMap (esz := esz) (φ := φ) (ρ := a.eval) (vs := []) (v := fun i => .map i) (ob := fun _ => .map [] 0 false) hkm rfl w Hb.next
          obtain ⟨v', φ', w', e1, e2, e3, e4⟩ := new_run (N := N) hnew S hNb (fun x cs e g vv h => by cases h)
          unfold wpOp
          simp only [hom]
          rw [if_pos (by simp [Region.wanted, hgm])]
          left
          unfold Oper.wp
          rw [e1, Oper.upon_value]
          refine go (o := om) (φ' := φ') (J' := []) ?_
          cases e2 with
          | @map _ p hp =>
          have hself : (a.put om.dst (.map (some p.blk))).eval (.tmp m) = .map (some p.blk) := by rw [hdm]; exact put_self (Nat.lt_of_lt_of_le F.mt.1 I.size)
          have no1 : ¬ (listed.getD (2 * es.length + 1) false = true ∨ 2 * es.length + 1 = 0) := fun h => by
            rcases h with h | h
            · exact hD (I.cl1 h 0 (by omega))
            · omega
          have no2 : ¬ (listed.getD (2 * es.length + 2) false = true ∨ 2 * es.length + 2 = 0) := fun h => by
            rcases h with h | h
            · exact hD (I.cl2 h 0 (by omega))
            · omega
          refine { ext := I.ext.trans e4.ext, p0 := fun h => absurd (.inr rfl) h, p1 := fun _ => ⟨p, hp, e3, st.trans e4, hself, fun h => absurd h no1, fun h => absurd h no2⟩, nodup := List.nodup_nil, jd := ?_, cl := fun j _ _ => .inr rfl, cl1 := fun h => absurd h no1, cl2 := fun h => absurd h no2, bld := ?_, old := ?_, size := by rw [put_size]; exact I.size, defs := by rw [put_defers]; exact I.defs }
          · intro j
            rw [I.jd]
            constructor
            · exact fun h => ⟨h.1, .inl h.2⟩
            · rintro ⟨h, h' | h'⟩
              · exact ⟨h, h'⟩
              · omega
          · rintro j key v0 b tk hj (h | h) htk
            · rw [eval_new hdm (fun e => by subst e; have := uniq htk hD0; omega)]
              exact (I.bld j key v0 b tk hj h htk).mono e4.ext
            · omega
          · intro t ht
            rw [eval_new hdm (fun e5 => ht 0 (.inr rfl) (by rw [hD0, e5]))]
            exact I.old t fun j hj => ht j (.inl hj)
        · have hj : (i - 1) / 2 < es.length := by omega
          obtain ⟨tk, E⟩ := F.ent ((i - 1) / 2) _ _ _ (List.getElem?_eq_getElem hj)
          obtain ⟨ob, z, ps, vs, hb1, hb2, hb3, hb4, hb5, hb6⟩ := E.bld
          obtain ⟨oi, t, x, hi2, hi3, hi4, hi5, hi6, hi7, hi8, hi9, hi10⟩ := E.ins
          generalize hjj : (i - 1) / 2 = j at *
          rcases Nat.mod_two_eq_zero_or_one i with hm2 | hm2
          · -- an entry is put down
            have hij : i = 1 + 2 * j + 1 := by omega
            have hij2 : i = 2 * j + 2 := by omega
            rw [← hij] at hi2
            have hd0 := hedge hi2 0 hi9
            have hdb := hedge hi2 _ hi10
            obtain ⟨p, e1, e2, e3, e4, e5, e6⟩ := I.p1 hd0
            have hjJ : j ∉ J := fun h => hD (hij2 ▸ ((I.jd j).1 h).2)
            have hkey := I.bld j _ _ _ tk (List.getElem?_eq_getElem hj) (by rw [show 2 * j + 1 = 1 + 2 * j by omega]; exact hdb) (by rw [show 2 * j + 1 = 1 + 2 * j by omega]; simp [dstO, hb1, hb3])
            have hr : VRels esz φ [.map Hb.next, es[j].1, es[j].2.1] ((argsOf oi.op).map a.eval) := by
              rw [hi7]
              refine .cons ?_ (.cons hkey (.cons (cstOk_rel e2 hi8) .nil))
              have := VRel.map (esz := esz) e1
              rw [← e4] at this
              exact this
            have hmem : ∀ y ∈ esJ es J 0, keq es[j].1 y.1 = some false := by
              intro y hy
              obtain ⟨j', h1, b, h2⟩ := esJ_mem (fun j' h => ((I.jd j').1 h).1) hy
              have hj' := ((I.jd j').1 h1).1
              rw [List.getElem?_eq_getElem hj'] at h2
              have h3 : y.1 = es[j'].1 := (congrArg (fun q : AVal × AVal × Nat => q.1) (Option.some.inj h2)).symm
              rw [h3]
              rcases Nat.lt_trichotomy j j' with h | h | h
              · exact List.pairwise_iff_getElem.1 dist j j' hj hj' h
              · subst h; exact absurd h1 hjJ
              · rw [keq_symm]; exact List.pairwise_iff_getElem.1 dist j' j hj' hj h
            have hf : eMset Hb.next es[j].1 es[j].2.1 (Hb.newObj (.map (esJ es J 0) J.length false)) = some (.tup [], (Hb.newObj (.map (esJ es J 0) J.length false)).setObj Hb.next (.map (esJ es J 0 ++ [(es[j].1, es[j].2.1, J.length)]) (Nat.succ J.length) false)) := by
              unfold eMset
              have hg : (Hb.newObj (.map (esJ es J 0) J.length false)).objs.get Hb.next = some (.map (esJ es J 0) J.length false) := by simp
              rw [hg]
              simp only
              rw [afind_none' hmem]
            have ha : actK (.mset e) [.map Hb.next, es[j].1, es[j].2.1] = .eff (eMset Hb.next es[j].1 es[j].2.1) := by
              show aMset e [.map Hb.next, es[j].1, es[j].2.1] = _
              unfold aMset
              simp only
              rw [show keyOk e es[j].fst = true from hi6]
              rfl
            obtain ⟨φ', nx, w', k1, k2, k3, k4⟩ := eff_mset (N := N) hi5 hr ha hf e2
            rw [newObj_setObj] at k3 k4
            have hsn : esJ es (J ++ [j]) 0 = esJ es J 0 ++ [(es[j].1, es[j].2.1, J.length)] := by
              rw [esJ_snoc (List.getElem?_eq_getElem hj)]; simp
            have hln : (J ++ [j]).length = Nat.succ J.length := by simp
            rw [← hsn, ← hln] at k3 k4
            have ne1 : i ≠ 2 * es.length + 1 := by omega
            have ne2 : i ≠ 2 * es.length + 2 := by omega
            have I' : MI P esz gl ops N nt φ0 H0 w0 φb Hb a0 es d1 d2 m (fun j => listed.getD j false = true ∨ j = i) φ' a w' (J ++ [j]) := by
              refine { ext := I.ext.trans k4.ext, p0 := fun h => absurd (.inl hd0) h, p1 := fun _ => ⟨p, k4.ext _ _ e1, k3, e3.trans k4, e4, ?_, ?_⟩, nodup := ?_, jd := ?_, cl := fun _ _ _ => .inl hd0, cl1 := ?_, cl2 := ?_, bld := ?_, old := fun t ht => I.old t fun j hj => ht j (.inl hj), size := I.size, defs := I.defs }
              · rintro (h | h)
                · exact e5 h
                · exact absurd h.symm ne1
              · rintro (h | h)
                · exact e6 h
                · exact absurd h.symm ne2
              · rw [List.nodup_append]
                refine ⟨I.nodup, by simp, fun a2 ha2 b hb => ?_⟩
                simp at hb; subst hb
                intro e9; subst e9; exact hjJ ha2
              · intro j'
                rw [List.mem_append, I.jd]
                constructor
                · rintro (h | h)
                  · exact ⟨h.1, .inl h.2⟩
                  · simp at h; subst h; exact ⟨hj, .inr hij2.symm⟩
                · rintro ⟨h, h' | h'⟩
                  · exact .inl ⟨h, h'⟩
                  · right; simp; omega
              · rintro (h | h) j' hj'
                · exact .inl (I.cl1 h j' hj')
                · exact absurd h.symm ne1
              · rintro (h | h) j' hj'
                · exact .inl (I.cl2 h j' hj')
                · exact absurd h.symm ne2
              · rintro j' key v0 b tk' hj' (h | h) htk
                · exact (I.bld j' key v0 b tk' hj' h htk).mono k4.ext
                · omega
            unfold wpOp
            simp only [hi2]
            rw [if_pos (by simp [Region.wanted, hi3])]
            left
            unfold Oper.wp
            rw [k1]
            cases k2 with
            | value _ => rw [Oper.upon_value, hi4]; exact go (o := oi) I'
            | skip => rw [Oper.upon_skip, hi4]; exact go (o := oi) I'
          · -- a key is built
            have hij : i = 1 + 2 * j := by omega
            obtain ⟨HS, hS⟩ := anyS
            obtain ⟨v', q1, q2⟩ := pure_build (P := P) (ρ := a.eval) hb4 (cst_vals hS hb5) hb6 w
            rw [← hij] at hb1
            refine put hb1 hb2 hb3 E.tk.1 q1 (by omega) (fun j' => by omega) ?_ (fun h => by omega) (fun h => by omega)
            intro j' key v0 b hj' hij'
            have : j' = j := by omega
            subst this
            rw [List.getElem?_eq_getElem hj] at hj'
            have hk3 : es[j'].1 = key := congrArg (fun q : AVal × AVal × Nat => q.1) (Option.some.inj hj')
            rw [← hk3]
            exact q2
      · rcases Nat.eq_or_lt_of_le hi1 with hi2 | hi2
        · subst hi2
          refine put ho1 hg1 hd1 F.t1.1 (v := a.eval (.tmp m)) (by simp [execOp, hop1]) (by omega) (fun j => by omega) (fun j key v0 b hj h => ?_) (fun _ => ⟨fun j hj => hedge ho1 j (hall1 j hj), rfl⟩) (fun h => by omega)
          have := (List.getElem?_eq_some_iff.1 hj).1
          omega
        · have : i = 2 * es.length + 2 := by omega
          subst this
          refine put ho2 hg2 hd2 F.t2.1 (v := a.eval (.tmp d1)) (by simp [execOp, hop2]) (by omega) (fun j => by omega) (fun j key v0 b hj h => ?_) (fun h => by omega) (fun _ => ⟨fun j hj => hedge ho2 j (hall2 j hj), rfl⟩)
          have := (List.getElem?_eq_some_iff.1 hj).1
          omega

/-- a region that puts down a literal of a map -/
theorem lit_wp (hesz : ∀ t, esz t = P.cellsOf t) (hmix : P.follows .mixedOrders = true) {call : CallT} {rc : AVal} {kp : AVal → EK} {kn : EK} {Q : Exit → Go.Act → World → Prop} {l : List Ins} {id : Nat} {φ : Phi} {H : AHeap} {env : Env} {a : Go.Act} {w : World}
    (hchk : chkM P gl ops nt mask l = true) (hrun : runIns call rc kp l [] env H kn = true) (I : EI P esz nt mask φ env a) (S : Sim esz φ (fun g => gl g = true) H w.heap) (st : Step N φ0 H0 w0 φ H w) (hN : N ≤ H0.next)
    (hQ : ∀ φ env a w H, EI P esz nt mask φ env a → Sim esz φ (fun g => gl g = true) H w.heap → Step N φ0 H0 w0 φ H w → kn env H = true → Q .normal a w) :
    (Code.region id ops true).wp P Q a w := by
  obtain ⟨e, es, hs, d1, d2, m, rfl, F⟩ := chkM_iff hchk
  have hr : (bif distinct es then kn (env.set d2 (.map H.next)) (H.newObj (.map es 0 true)) else false) = true := hrun
  cases hd : distinct es with
  | false => rw [hd] at hr; cases hr
  | true =>
    rw [hd] at hr
    simp only [cond_true] at hr
    have hsame : Step N φ H w φ H w.drew := ⟨.refl φ, fun _ _ h => ⟨h, rfl, rfl⟩, Nat.le_refl _, rfl, rfl, rfl, Nat.le_refl _, fun _ _ h => ⟨rfl, h⟩⟩
    have hno : ∀ i, ¬ ((Array.replicate ops.size false).getD i false = true) := by
      intro i
      rw [Array.getD_eq_getD_getElem?, Array.getElem?_replicate]
      split <;> simp
    refine wp_region_any hmix (lit_run (φ0 := φ0) (w0 := w0) (N := N) (φb := φ) (Hb := H) (a0 := a) hesz F hd hN ?_ ops.size _ φ a w.drew [] (by simp) (left_new _) ?_)
    · intro φ' a' w' hv ⟨p, hp⟩ hext hold hsz hdf S' st'
      refine hQ φ' (env.set d2 (.map H.next)) a' w' _ ⟨?_, hsz, hdf⟩ S' st' hr
      intro t v htv
      rcases env_set htv with ⟨rfl, rfl⟩ | ⟨ht, htv⟩
      · refine ⟨F.t2.2, ?_⟩
        rw [hv, hp]
        exact .map hp
      · obtain ⟨h1, h2⟩ := I.ev t v htv
        refine ⟨h1, ?_⟩
        rw [hold t h1 ht]
        exact h2.mono hext
    · exact { ext := .refl φ, p0 := fun _ => ⟨rfl, S, st.trans hsame⟩, p1 := fun h => absurd h (hno 0), nodup := List.nodup_nil, jd := fun j => ⟨fun h => (by cases h), fun h => absurd h.2 (hno _)⟩, cl := fun j _ h => absurd h (hno _), cl1 := fun h => absurd h (hno _), cl2 := fun h => absurd h (hno _), bld := fun j _ _ _ _ _ h => absurd h (hno _), old := fun t _ => rfl, size := I.size, defs := I.defs }
end
end Go.Am
