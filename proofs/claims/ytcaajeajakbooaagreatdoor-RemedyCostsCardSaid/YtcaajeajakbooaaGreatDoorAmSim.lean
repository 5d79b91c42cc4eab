/-
  The simulation between the abstract heap and the memory.
-/
import Derived.Test.YtcaajeajakbooaaGreatDoorAmRel
set_option linter.unusedVariables false
set_option linter.unusedSimpArgs false
namespace Go.Am
open Go

inductive All2 {α β : Type} (R : α → β → Prop) : List α → List β → Prop
  | nil : All2 R [] []
  | cons {a : α} {b : β} {l : List α} {m : List β} (h : R a b) (t : All2 R l m) : All2 R (a :: l) (b :: m)
theorem All2.imp {α β : Type} {R S : α → β → Prop} (h : ∀ a b, R a b → S a b) : ∀ {l : List α} {m : List β}, All2 R l m → All2 S l m
  | _, _, .nil => .nil
  | _, _, .cons a t => .cons (h _ _ a) (All2.imp h t)

section sim
variable (esz : TypeId → Nat) (φ : Phi)

structure ERel (x : AVal × AVal × Nat) (e : MapEntry) : Prop where
  key : VRel esz φ x.1 e.key
  val : VRel esz φ x.2.1 e.val
structure ERelB (x : AVal × AVal × Nat) (e : MapEntry) : Prop extends ERel esz φ x e where
  born : e.born = x.2.2

def MRel (es : List (AVal × AVal × Nat)) (clock : Nat) : Bool → Array MapEntry → Nat → Prop
  | false, es', clock' => clock' = clock ∧ All2 (ERelB esz φ) es es'.toList
  | true, es', _ => ∃ l : List MapEntry, l.Perm es'.toList ∧ All2 (ERel esz φ) es l ∧ distinct es = true

def noFrozen (fz : Nat × Nat) (n : Nat) : Prop := ∀ q, q < n → ¬ (fz.1 ≤ q ∧ q < fz.2)

def ORel (H : AHeap) (p : PI) (heap : Array Obj) : AObj → Prop
  | .cells cs e g _ => ∃ c fz, heap[p.blk]? = some (.cells c e fz) ∧ p.elem = e ∧ c.size = p.size ∧ p.base + cs.length ≤ p.size ∧
      (∀ (j : Nat) (v : AVal), cs[j]? = some v → ∃ u, c[p.base + j]? = some u ∧ VRel esz φ v u) ∧ ((H.grp g).fz = false → g ≠ 0 → noFrozen fz p.size)
  | .map es clock ex => ∃ es' clock', heap[p.blk]? = some (.map es' clock') ∧ MRel esz φ es clock ex es' clock'
  | .siter s pos => ∃ s', heap[p.blk]? = some (.stringIter s' pos) ∧ ofBytes s' = s ∧ p.base = 0

def isLive (H : AHeap) : AObj → Prop
  | .cells _ _ g v => v = (H.grp g).ver
  | _ => True
def grpOf : AObj → Option Nat
  | .cells _ _ g _ => some g
  | _ => none

structure Sim (G : Nat → Prop) (H : AHeap) (heap : Array Obj) : Prop where
  obj : ∀ i o p, H.objs.get i = some o → φ i = some p → isLive H o → ORel esz φ H p heap o
  disj : ∀ i j oi oj pi pj, H.objs.get i = some oi → H.objs.get j = some oj → φ i = some pi → φ j = some pj → isLive H oi → isLive H oj → i ≠ j →
    pi.blk = pj.blk → ∃ g, grpOf oi = some g ∧ grpOf oj = some g
  tip : ∀ i cs e g v p cs' e' v' q, H.objs.get i = some (.cells cs e g v) → v = (H.grp g).ver → φ i = some p → g ≠ 0 →
    H.objs.get (H.grp g).tip = some (.cells cs' e' g v') → v' = (H.grp g).ver → φ (H.grp g).tip = some q → p.blk = q.blk → p.base + cs.length ≤ q.base + cs'.length
  solo : ∀ i cs e g v, H.objs.get i = some (.cells cs e g v) → v = (H.grp g).ver → g ≠ 0 → (H.grp g).tip = g → i = g
  gl : ∀ i cs e g v, H.objs.get i = some (.cells cs e g v) → g < H.next
  vle : ∀ i cs e g v, H.objs.get i = some (.cells cs e g v) → v ≤ (H.grp g).ver
  bnd : ∀ i p, φ i = some p → p.blk < heap.size
  lt : ∀ i p, φ i = some p → i < H.next
  base : ∀ i cs e g v p, H.objs.get i = some (.cells cs e g v) → φ i = some p → p.base % esz p.elem = 0
  grpφ : ∀ i cs e g v p, H.objs.get i = some (.cells cs e g v) → φ i = some p → g ≠ 0 → ∃ q, φ g = some q
  fresh : ∀ i, H.next ≤ i → H.objs.get i = none ∧ H.grps.get i = none
  glob : ∀ g, G g → ∃ p, φ g = some p ∧ p.blk = g ∧ p.base = 0

/-- block r may be written: some object whose group is not 0 lies in it -/
def Img (H : AHeap) (r : Nat) : Prop := ∃ i o p, H.objs.get i = some o ∧ grpOf o ≠ some 0 ∧ φ i = some p ∧ p.blk = r
end sim

structure Step (N : Nat) (φ : Phi) (H : AHeap) (w : World) (φ' : Phi) (H' : AHeap) (w' : World) : Prop where
  ext : Ext φ φ'
  ph : ∀ i, i < N → φ i = none → φ' i = none ∧ H'.objs.get i = H.objs.get i ∧ H'.grps.get i = H.grps.get i
  next : H.next ≤ H'.next
  os : w'.os = w.os
  tape : w'.tape = w.tape
  output : w'.output = w.output
  size : w.heap.size ≤ w'.heap.size
  heap : ∀ r, r < w.heap.size → ¬ Img φ H r → w'.heap[r]? = w.heap[r]? ∧ ¬ Img φ' H' r

theorem Step.refl (N : Nat) (φ : Phi) (H : AHeap) (w : World) : Step N φ H w φ H w :=
  ⟨.refl φ, fun _ _ h => ⟨h, rfl, rfl⟩, Nat.le_refl _, rfl, rfl, rfl, Nat.le_refl _, fun _ _ h => ⟨rfl, h⟩⟩
theorem Step.trans {N : Nat} {φ : Phi} {H : AHeap} {w : World} {φ1 : Phi} {H1 : AHeap} {w1 : World} {φ2 : Phi} {H2 : AHeap} {w2 : World}
    (a : Step N φ H w φ1 H1 w1) (b : Step N φ1 H1 w1 φ2 H2 w2) : Step N φ H w φ2 H2 w2 where
  ext := a.ext.trans b.ext
  ph := fun i hi h => by
    obtain ⟨h1, h2, h3⟩ := a.ph i hi h
    obtain ⟨k1, k2, k3⟩ := b.ph i hi h1
    exact ⟨k1, k2.trans h2, k3.trans h3⟩
  next := Nat.le_trans a.next b.next
  os := b.os.trans a.os
  tape := b.tape.trans a.tape
  output := b.output.trans a.output
  size := Nat.le_trans a.size b.size
  heap := fun r hr h => by
    obtain ⟨h1, h2⟩ := a.heap r hr h
    obtain ⟨k1, k2⟩ := b.heap r (Nat.lt_of_lt_of_le hr a.size) h2
    exact ⟨k1.trans h1, k2⟩
theorem Step.mono {N M : Nat} {φ : Phi} {H : AHeap} {w : World} {φ' : Phi} {H' : AHeap} {w' : World} (h : Step N φ H w φ' H' w') (hM : M ≤ N) :
    Step M φ H w φ' H' w' := { h with ph := fun i hi => h.ph i (Nat.lt_of_lt_of_le hi hM) }

/-- The worlds with the same memory: a draw, nothing else. -/
structure SameMem (w w' : World) : Prop where
  heap : w'.heap = w.heap
  os : w'.os = w.os
  tape : w'.tape = w.tape
  output : w'.output = w.output
theorem SameMem.refl (w : World) : SameMem w w := ⟨rfl, rfl, rfl, rfl⟩

section rel
variable {esz : TypeId → Nat} {φ φ' : Phi}
theorem ERel.mono (e : Ext φ φ') {x : AVal × AVal × Nat} {y : MapEntry} (h : ERel esz φ x y) : ERel esz φ' x y := ⟨h.key.mono e, h.val.mono e⟩
theorem ERelB.mono (e : Ext φ φ') {x : AVal × AVal × Nat} {y : MapEntry} (h : ERelB esz φ x y) : ERelB esz φ' x y := ⟨h.toERel.mono e, h.born⟩
theorem MRel.mono (e : Ext φ φ') {es : List (AVal × AVal × Nat)} {clock : Nat} {ex : Bool} {es' : Array MapEntry} {clock' : Nat}
    (h : MRel esz φ es clock ex es' clock') : MRel esz φ' es clock ex es' clock' := by
  cases ex with
  | false => exact ⟨h.1, h.2.imp fun _ _ => ERelB.mono e⟩
  | true => obtain ⟨l, h1, h2, h3⟩ := h; exact ⟨l, h1, h2.imp fun _ _ => ERel.mono e, h3⟩
theorem ORel.mono (e : Ext φ φ') {H H' : AHeap} {p : PI} {heap heap' : Array Obj} {o : AObj} (hh : heap'[p.blk]? = heap[p.blk]?)
    (hg : ∀ g, grpOf o = some g → (H'.grp g).fz = false → (H.grp g).fz = false) (h : ORel esz φ H p heap o) : ORel esz φ' H' p heap' o := by
  cases o with
  | cells cs e g v =>
    obtain ⟨c, fz, h1, h2, h3, h4, h5, h6⟩ := h
    exact ⟨c, fz, hh.trans h1, h2, h3, h4, fun j v hv => let ⟨u, hu, hr⟩ := h5 j v hv; ⟨u, hu, hr.mono ‹_›⟩, fun hf => h6 (hg g rfl hf)⟩
  | map es clock ex => obtain ⟨es', clock', h1, h2⟩ := h; exact ⟨es', clock', hh.trans h1, h2.mono e⟩
  | siter s pos => obtain ⟨s', h1, h2⟩ := h; exact ⟨s', hh.trans h1, h2⟩
end rel

section steps
variable {esz : TypeId → Nat} {G : Nat → Prop} {φ : Phi} {H : AHeap}

theorem isLive_newObj {o o' : AObj} : isLive (H.newObj o') o ↔ isLive H o := by cases o <;> simp [isLive, AHeap.grp]
theorem grp_newObj (o : AObj) (g : Nat) : (H.newObj o).grp g = H.grp g := by simp [AHeap.grp]
theorem grp_setObj (i : Nat) (o : AObj) (g : Nat) : (H.setObj i o).grp g = H.grp g := by simp [AHeap.grp]
theorem grp_setGrp (i : Nat) (o : AGrp) (g : Nat) : (H.setGrp i o).grp g = if g = i then o else H.grp g := by
  by_cases h : g = i <;> simp [AHeap.grp, h]

/-- A new object that the concrete memory does not have yet. -/
theorem Sim.phantom {heap : Array Obj} (h : Sim esz φ G H heap) (o : AObj) (hg : ∀ cs e g v, o = .cells cs e g v → g = H.next ∧ v = 0) : Sim esz φ G (H.newObj o) heap := by
  have hn : φ H.next = none := by
    cases e : φ H.next with
    | none => rfl
    | some p => exact absurd (h.lt _ _ e) (Nat.lt_irrefl _)
  have old : ∀ {i : Nat} {p : PI}, φ i = some p → i ≠ H.next := fun hp e => by rw [e, hn] at hp; cases hp
  refine ⟨?_, ?_, ?_, ?_, ?_, ?_, h.bnd, ?_, ?_, ?_, ?_, h.glob⟩
  · intro i x p hx hp hl
    rw [newObj_objs, if_neg (old hp)] at hx
    exact (h.obj i x p hx hp (isLive_newObj.1 hl)).mono (.refl φ) rfl (fun g _ hf => by rwa [grp_newObj] at hf)
  · intro i j oi oj pi pj hi hj hpi hpj li lj
    rw [newObj_objs, if_neg (old hpi)] at hi
    rw [newObj_objs, if_neg (old hpj)] at hj
    exact h.disj i j oi oj pi pj hi hj hpi hpj (isLive_newObj.1 li) (isLive_newObj.1 lj)
  · intro i cs e g v p cs' e' v' q hi hv hp hg0 ht hv' hq
    rw [grp_newObj] at hv ht hv' hq
    rw [newObj_objs, if_neg (old hp)] at hi
    rw [newObj_objs, if_neg (old hq)] at ht
    exact h.tip i cs e g v p cs' e' v' q hi hv hp hg0 ht hv' hq
  · intro i cs e g v hi hv hg0 ht
    rw [grp_newObj] at hv ht
    rw [newObj_objs] at hi
    split at hi
    · rename_i e1
      cases hi
      rw [e1, (hg _ _ g _ rfl).1]
    · exact h.solo i cs e g v hi hv hg0 ht
  · intro i cs e g v hi
    rw [newObj_objs] at hi
    rw [newObj_next]
    split at hi
    · cases hi; rw [(hg _ _ g _ rfl).1]; exact Nat.lt_succ_self _
    · exact Nat.lt_succ_of_lt (h.gl i cs e g v hi)
  · intro i cs e g v hi
    rw [newObj_objs] at hi
    rw [grp_newObj]
    split at hi
    · cases hi; rw [(hg _ _ g _ rfl).2]; exact Nat.zero_le _
    · exact h.vle i cs e g v hi
  · intro i p hp; rw [newObj_next]; exact Nat.lt_succ_of_lt (h.lt i p hp)
  · intro i cs e g v p hi hp
    rw [newObj_objs, if_neg (old hp)] at hi
    exact h.base i cs e g v p hi hp
  · intro i cs e g v p hi hp
    rw [newObj_objs, if_neg (old hp)] at hi
    exact h.grpφ i cs e g v p hi hp
  · intro i hi
    rw [newObj_next] at hi
    rw [newObj_objs, if_neg (by omega), newObj_grps]
    exact h.fresh i (by omega)

theorem Step.phantom {heap : Array Obj} {N : Nat} {w : World} (h : Sim esz φ G H heap) (hN : N ≤ H.next) (o : AObj) : Step N φ H w φ (H.newObj o) w where
  ext := .refl φ
  ph := fun i hi h => ⟨h, by rw [newObj_objs, if_neg (by omega)], by rw [newObj_grps]⟩
  next := by rw [newObj_next]; exact Nat.le_succ _
  os := rfl
  tape := rfl
  output := rfl
  size := Nat.le_refl _
  heap := fun r _ hi => ⟨rfl, fun ⟨i, x, p, hx, hg, hp, hr⟩ => hi ⟨i, x, p, by
    rw [newObj_objs] at hx
    split at hx
    · rename_i e; exact absurd (h.lt i p hp) (by omega)
    · exact hx, hg, hp, hr⟩⟩

def lnk (φ : Phi) (x : Nat) (p : PI) : Phi := fun i => if i = x then some p else φ i
theorem link_ext {x : Nat} {p : PI} (h : φ x = none) : Ext φ (lnk φ x p) := fun i q hq => by
  unfold lnk
  split
  · rename_i e; rw [e, h] at hq; cases hq
  · exact hq
theorem link_self (φ : Phi) (x : Nat) (p : PI) : lnk φ x p x = some p := by simp [lnk]
theorem link_other {x i : Nat} {p : PI} (h : i ≠ x) : lnk φ x p i = φ i := by simp [lnk, h]

/-- The concrete memory gets a block for a phantom. -/
theorem Sim.link {heap : Array Obj} (h : Sim esz φ G H heap) {x : Nat} {o : AObj} {p : PI} {ob : Obj} (hx : φ x = none) (ho : H.objs.get x = some o)
    (hg : ∀ g, grpOf o = some g → g = x) (hgr : H.grps.get x = none) (hp : p.blk = heap.size) (hb : p.base = 0)
    (hr : ORel esz (lnk φ x p) H p (heap.push ob) o) : Sim esz (lnk φ x p) G H (heap.push ob) := by
  have hlt : x < H.next := by
    rcases Nat.lt_or_ge x H.next with e | e
    · exact e
    · rw [(h.fresh x e).1] at ho; cases ho
  have ex := link_ext (p := p) hx
  have keep : ∀ {i : Nat} {q : PI}, φ i = some q → (heap.push ob)[q.blk]? = heap[q.blk]? := fun hq => by
    rw [Array.getElem?_push, if_neg (by have := h.bnd _ _ hq; omega)]
  have hgd : H.grp x = ⟨0, x, false⟩ := by simp [AHeap.grp, hgr]
  refine ⟨?_, ?_, ?_, h.solo, h.gl, h.vle, ?_, ?_, ?_, ?_, h.fresh, ?_⟩
  · intro i oi q hi hq hl
    by_cases e : i = x
    · subst e
      rw [link_self] at hq; cases hq
      rw [ho] at hi; cases hi
      exact hr
    · rw [link_other e] at hq
      exact (h.obj i oi q hi hq hl).mono ex (keep hq) (fun _ _ hf => hf)
  · intro i j oi oj pi pj hi hj hpi hpj li lj hij hbb
    by_cases e : i = x
    · subst e
      rw [link_self] at hpi; cases hpi
      rw [link_other (fun e => hij e.symm)] at hpj
      have := h.bnd _ _ hpj; omega
    · rw [link_other e] at hpi
      by_cases e2 : j = x
      · subst e2
        rw [link_self] at hpj; cases hpj
        have := h.bnd _ _ hpi; omega
      · rw [link_other e2] at hpj
        exact h.disj i j oi oj pi pj hi hj hpi hpj li lj hij hbb
  · intro i cs e g v q cs' e' v' q' hi hv hq hg0 ht hv' hq' hbb
    by_cases e1 : i = x
    · subst e1
      rw [ho] at hi; cases hi
      have := hg g rfl; subst this
      rw [hgd] at ht hq'
      simp only at ht hq'
      rw [ho] at ht; cases ht
      rw [link_self] at hq hq'; cases hq; cases hq'
      exact Nat.le_refl _
    · rw [link_other e1] at hq
      by_cases e2 : (H.grp g).tip = x
      · rw [e2, link_self] at hq'; cases hq'
        have := h.bnd _ _ hq; omega
      · rw [link_other e2] at hq'
        exact h.tip i cs e g v q cs' e' v' q' hi hv hq hg0 ht hv' hq' hbb
  · intro i q hq
    by_cases e : i = x
    · subst e; rw [link_self] at hq; cases hq; simp; omega
    · rw [link_other e] at hq; have := h.bnd _ _ hq; simp; omega
  · intro i q hq
    by_cases e : i = x
    · subst e; exact hlt
    · rw [link_other e] at hq; exact h.lt i q hq
  · intro i cs e g v q hi hq
    by_cases e1 : i = x
    · subst e1; rw [link_self] at hq; cases hq; rw [hb]; exact Nat.zero_mod _
    · rw [link_other e1] at hq; exact h.base i cs e g v q hi hq
  · intro i cs e g v q hi hq hg0
    by_cases e1 : i = x
    · subst e1
      rw [ho] at hi; cases hi
      have := hg g rfl; subst this
      exact ⟨p, link_self _ _ _⟩
    · rw [link_other e1] at hq
      obtain ⟨r, hr'⟩ := h.grpφ i cs e g v q hi hq hg0
      exact ⟨r, ex _ _ hr'⟩
  · intro g hg'
    obtain ⟨q, h1, h2⟩ := h.glob g hg'
    exact ⟨q, ex _ _ h1, h2⟩

theorem Step.link {N : Nat} {w w' : World} {x : Nat} {p : PI} {ob : Obj} (hx : φ x = none) (hN : N ≤ x) (hp : p.blk = w.heap.size)
    (hh : w'.heap = w.heap.push ob) (h1 : w'.os = w.os) (h2 : w'.tape = w.tape) (h3 : w'.output = w.output) : Step N φ H w (lnk φ x p) H w' where
  ext := link_ext hx
  ph := fun i hi h => ⟨by rw [link_other (by omega)]; exact h, rfl, rfl⟩
  next := Nat.le_refl _
  os := h1
  tape := h2
  output := h3
  size := by rw [hh]; simp
  heap := fun r hr hi => ⟨by rw [hh, Array.getElem?_push, if_neg (by omega)], fun ⟨i, o, q, ho, hg, hq, hb⟩ => by
    by_cases e : i = x
    · subst e; rw [link_self] at hq; cases hq; omega
    · rw [link_other e] at hq; exact hi ⟨i, o, q, ho, hg, hq, hb⟩⟩
end steps
end Go.Am
