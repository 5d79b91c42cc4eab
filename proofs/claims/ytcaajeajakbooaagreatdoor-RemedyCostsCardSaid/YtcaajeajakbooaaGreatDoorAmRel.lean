/-
  The relation between the abstract machine and the model: values.
-/
import Derived.Test.YtcaajeajakbooaaGreatDoorAmDef
import Derived.Laws.Cells
import Derived.Laws.World
import Derived.Calls
set_option linter.unusedVariables false
set_option linter.unusedSimpArgs false
namespace Go.Am
open Go

/-! ### Tries -/
section trie
variable {α : Type}

theorem Trie.get_nil (k : Nat) : (Trie.nil : Trie α).get k = none := rfl
theorem beq_dec (a b : Nat) : Nat.beq a b = decide (a = b) := by
  by_cases h : a = b
  · subst h; simp
  · cases h' : Nat.beq a b with
    | false => simp [h]
    | true => exact absurd (Nat.eq_of_beq_eq_true h') h
theorem rec_dec {β : Type} (p : Prop) [Decidable p] (x y : β) : @Bool.rec (fun _ => β) y x (decide p) = if p then x else y := by
  by_cases h : p <;> simp [h]

theorem Trie.get_node (l : Trie α) (v : Option α) (r : Trie α) (k : Nat) :
    (Trie.node l v r).get k = if k = 0 then v else if k % 2 = 1 then l.get (k / 2) else r.get (k / 2 - 1) := by
  show @Bool.rec (fun _ => Option α) (@Bool.rec (fun _ => Option α) (r.get (Nat.pred (Nat.div k 2))) (l.get (Nat.div k 2)) (Nat.beq (Nat.mod k 2) 1)) v (Nat.beq k 0) = _
  rw [beq_dec, beq_dec, rec_dec, rec_dec]; rfl

theorem Trie.put_succ (n : Nat) (t : Trie α) (k : Nat) (v : α) :
    Trie.put (n + 1) t k v = match t with
      | .nil => if k = 0 then .node .nil (some v) .nil else if k % 2 = 1 then .node (Trie.put n .nil (k / 2) v) none .nil else .node .nil none (Trie.put n .nil (k / 2 - 1) v)
      | .node l u r => if k = 0 then .node l (some v) r else if k % 2 = 1 then .node (Trie.put n l (k / 2) v) u r else .node l u (Trie.put n r (k / 2 - 1) v) := by
  cases t with
  | nil =>
    show @Bool.rec (fun _ => Trie α) (@Bool.rec (fun _ => Trie α) (Trie.node .nil none (Trie.put n .nil (Nat.pred (Nat.div k 2)) v)) (Trie.node (Trie.put n .nil (Nat.div k 2) v) none .nil) (Nat.beq (Nat.mod k 2) 1)) (Trie.node .nil (some v) .nil) (Nat.beq k 0) = _
    rw [beq_dec, beq_dec, rec_dec, rec_dec]; rfl
  | node l u r =>
    show @Bool.rec (fun _ => Trie α) (@Bool.rec (fun _ => Trie α) (Trie.node l u (Trie.put n r (Nat.pred (Nat.div k 2)) v)) (Trie.node (Trie.put n l (Nat.div k 2) v) u r) (Nat.beq (Nat.mod k 2) 1)) (Trie.node l (some v) r) (Nat.beq k 0) = _
    rw [beq_dec, beq_dec, rec_dec, rec_dec]; rfl

theorem Trie.get_put (n : Nat) : ∀ (t : Trie α) (k k' : Nat) (v : α), k < n → (Trie.put n t k v).get k' = if k' = k then some v else t.get k' := by
  induction n with
  | zero => intro t k k' v h; omega
  | succ n ih =>
    intro t k k' v h
    rw [Trie.put_succ]
    cases t with
    | nil =>
      simp only
      by_cases h0 : k = 0
      · rw [if_pos h0, Trie.get_node]
        subst h0
        by_cases e : k' = 0
        · simp [e]
        · simp [e, Trie.get_nil]
      · rw [if_neg h0]
        by_cases h1 : k % 2 = 1
        · rw [if_pos h1, Trie.get_node]; simp only [Trie.get_nil]
          by_cases e : k' = 0
          · rw [if_pos e, if_neg (by omega)]
          · rw [if_neg e]
            by_cases e1 : k' % 2 = 1
            · rw [if_pos e1, ih _ _ _ _ (by omega)]; simp only [Trie.get_nil]
              by_cases e2 : k' = k
              · rw [if_pos e2, if_pos (by omega)]
              · rw [if_neg e2, if_neg (by omega)]
            · rw [if_neg e1, if_neg (by omega)]
        · rw [if_neg h1, Trie.get_node]; simp only [Trie.get_nil]
          by_cases e : k' = 0
          · rw [if_pos e, if_neg (by omega)]
          · rw [if_neg e]
            by_cases e1 : k' % 2 = 1
            · rw [if_pos e1, if_neg (by omega)]
            · rw [if_neg e1, ih _ _ _ _ (by omega)]; simp only [Trie.get_nil]
              by_cases e2 : k' = k
              · rw [if_pos e2, if_pos (by omega)]
              · rw [if_neg e2, if_neg (by omega)]
    | node l u r =>
      simp only
      by_cases h0 : k = 0
      · rw [if_pos h0, Trie.get_node, Trie.get_node]
        subst h0
        by_cases e : k' = 0
        · simp [e]
        · simp [e]
      · rw [if_neg h0]
        by_cases h1 : k % 2 = 1
        · rw [if_pos h1, Trie.get_node, Trie.get_node]
          by_cases e : k' = 0
          · rw [if_pos e, if_neg (by omega), if_pos e]
          · rw [if_neg e, if_neg e]
            by_cases e1 : k' % 2 = 1
            · rw [if_pos e1, if_pos e1, ih _ _ _ _ (by omega)]
              by_cases e2 : k' = k
              · rw [if_pos e2, if_pos (by omega)]
              · rw [if_neg e2, if_neg (by omega)]
            · rw [if_neg e1, if_neg e1, if_neg (by omega)]
        · rw [if_neg h1, Trie.get_node, Trie.get_node]
          by_cases e : k' = 0
          · rw [if_pos e, if_neg (by omega), if_pos e]
          · rw [if_neg e, if_neg e]
            by_cases e1 : k' % 2 = 1
            · rw [if_pos e1, if_pos e1, if_neg (by omega)]
            · rw [if_neg e1, if_neg e1, ih _ _ _ _ (by omega)]
              by_cases e2 : k' = k
              · rw [if_pos e2, if_pos (by omega)]
              · rw [if_neg e2, if_neg (by omega)]

@[simp] theorem Trie.get_set (t : Trie α) (k k' : Nat) (v : α) : (t.set k v).get k' = if k' = k then some v else t.get k' :=
  Trie.get_put _ t k k' v (Nat.lt_succ_self k)
end trie

/-! ### Heaps -/
section heap
variable (H : AHeap)
@[simp] theorem newObj_next (o : AObj) : (H.newObj o).next = H.next + 1 := by cases H; rfl
@[simp] theorem newObj_objs (o : AObj) (i : Nat) : (H.newObj o).objs.get i = if i = H.next then some o else H.objs.get i := by cases H; simp [AHeap.newObj]
@[simp] theorem newObj_grps (o : AObj) : (H.newObj o).grps = H.grps := by cases H; rfl
@[simp] theorem setObj_next (i : Nat) (o : AObj) : (H.setObj i o).next = H.next := by cases H; rfl
@[simp] theorem setObj_objs (i j : Nat) (o : AObj) : (H.setObj i o).objs.get j = if j = i then some o else H.objs.get j := by cases H; simp [AHeap.setObj]
@[simp] theorem setObj_grps (i : Nat) (o : AObj) : (H.setObj i o).grps = H.grps := by cases H; rfl
@[simp] theorem setGrp_next (i : Nat) (o : AGrp) : (H.setGrp i o).next = H.next := by cases H; rfl
@[simp] theorem setGrp_objs (i : Nat) (o : AGrp) : (H.setGrp i o).objs = H.objs := by cases H; rfl
@[simp] theorem setGrp_grps (i j : Nat) (o : AGrp) : (H.setGrp i o).grps.get j = if j = i then some o else H.grps.get j := by cases H; simp [AHeap.setGrp]
theorem grp_eq (g : Nat) : H.grp g = match H.grps.get g with | some x => x | none => ⟨0, g, false⟩ := rfl
theorem grp_congr {H H' : AHeap} {g : Nat} (h : H'.grps.get g = H.grps.get g) : H'.grp g = H.grp g := by unfold AHeap.grp; rw [h]
end heap

/-! ### The relation between abstract and concrete values -/
def ofBytes (s : ByteArray) : List Nat := s.data.toList.map UInt8.toNat

structure PI where
  blk : Nat
  base : Nat
  size : Nat
  elem : TypeId

abbrev Phi := Nat → Option PI

mutual
inductive VRel (esz : TypeId → Nat) (φ : Phi) : AVal → Value → Prop
  | any (v : Value) (h : v.oneCell' = true) : VRel esz φ .any v
  | bool (b : Bool) : VRel esz φ (.bool b) (.bool b)
  | int (k : IntKind) (n : Int) : VRel esz φ (.int k n) (.int k n)
  | str (s : ByteArray) : VRel esz φ (.str (ofBytes s)) (.string s)
  | nilptr : VRel esz φ .nilptr (.pointer none)
  | ptr {i : Nat} (o : Nat) {p : PI} (h : φ i = some p) : VRel esz φ (.ptr i o) (.pointer (some ⟨p.blk, p.base + o, none⟩))
  | nilsl : VRel esz φ .nilsl (.slice none 0 0)
  | slx {i : Nat} (o n c : Nat) {p : PI} (h : φ i = some p) : VRel esz φ (.sl i o n c 0) (.slice (some ⟨p.blk, p.base + o, none⟩) n c)
  | sli {i : Nat} (o n lo cap : Nat) {ez : Nat} {p : PI} (h : φ i = some p) (h0 : ez ≠ 0) (hz : esz p.elem = ez) (hc : lo ≤ cap) (hs : p.base + o + cap * ez ≤ p.size) :
      VRel esz φ (.sl i o n lo ez) (.slice (some ⟨p.blk, p.base + o, none⟩) n cap)
  | sle {i : Nat} (o : Nat) {ez : Nat} {p : PI} (h : φ i = some p) (h0 : ez ≠ 0) (a : Addr) : VRel esz φ (.sl i o 0 0 ez) (.slice (some a) 0 0)
  | nilmap : VRel esz φ .nilmap (.map none)
  | map {i : Nat} {p : PI} (h : φ i = some p) : VRel esz φ (.map i) (.map (some p.blk))
  | fn (f : FuncId) {a b : List AVal} {a' b' : Array Value} (ha : VRels esz φ a a'.toList) (hb : VRels esz φ b b'.toList) : VRel esz φ (.fn f a b) (.func (.func f) a' b')
  | nilfn : VRel esz φ .nilfn .nilFunc
  | iface (t : TypeId) {v : AVal} {v' : Value} (h : VRel esz φ v v') : VRel esz φ (.iface t v) (.iface t v')
  | niliface : VRel esz φ .niliface .nilIface
  | agg {cs : List AVal} {cs' : Array Value} (h : VRels esz φ cs cs'.toList) : VRel esz φ (.agg cs) (.agg cs')
  | tup {cs : List AVal} {cs' : Array Value} (h : VRels esz φ cs cs'.toList) : VRel esz φ (.tup cs) (.tuple cs')
inductive VRels (esz : TypeId → Nat) (φ : Phi) : List AVal → List Value → Prop
  | nil : VRels esz φ [] []
  | cons {v : AVal} {v' : Value} {l : List AVal} {l' : List Value} (h : VRel esz φ v v') (t : VRels esz φ l l') : VRels esz φ (v :: l) (v' :: l')
end

def Ext (φ φ' : Phi) : Prop := ∀ i p, φ i = some p → φ' i = some p

theorem Ext.refl (φ : Phi) : Ext φ φ := fun _ _ h => h
theorem Ext.trans {a b c : Phi} (h : Ext a b) (k : Ext b c) : Ext a c := fun i p e => k i p (h i p e)

mutual
theorem VRel.mono {esz : TypeId → Nat} {φ φ' : Phi} (e : Ext φ φ') : ∀ {v : AVal} {v' : Value}, VRel esz φ v v' → VRel esz φ' v v'
  | _, _, .any v h => .any v h
  | _, _, .bool b => .bool b
  | _, _, .int k n => .int k n
  | _, _, .str s => .str s
  | _, _, .nilptr => .nilptr
  | _, _, .ptr o h => .ptr o (e _ _ h)
  | _, _, .nilsl => .nilsl
  | _, _, .slx o n c h => .slx o n c (e _ _ h)
  | _, _, .sli o n lo cap h h0 hz hc hs => .sli o n lo cap (e _ _ h) h0 hz hc hs
  | _, _, .sle o h h0 a => .sle o (e _ _ h) h0 a
  | _, _, .nilmap => .nilmap
  | _, _, .map h => .map (e _ _ h)
  | _, _, .fn f ha hb => .fn f (VRels.mono e ha) (VRels.mono e hb)
  | _, _, .nilfn => .nilfn
  | _, _, .iface t h => .iface t (VRel.mono e h)
  | _, _, .niliface => .niliface
  | _, _, .agg h => .agg (VRels.mono e h)
  | _, _, .tup h => .tup (VRels.mono e h)
theorem VRels.mono {esz : TypeId → Nat} {φ φ' : Phi} (e : Ext φ φ') : ∀ {v : List AVal} {v' : List Value}, VRels esz φ v v' → VRels esz φ' v v'
  | _, _, .nil => .nil
  | _, _, .cons h t => .cons (VRel.mono e h) (VRels.mono e t)
end

section lists
variable {esz : TypeId → Nat} {φ : Phi}
theorem VRels.length {l : List AVal} {l' : List Value} (h : VRels esz φ l l') : l.length = l'.length := by
  induction l generalizing l' with
  | nil => cases h; rfl
  | cons v l ih => cases h with | cons h t => simp [ih t]
theorem VRels.get {l : List AVal} {l' : List Value} (h : VRels esz φ l l') : ∀ {j : Nat} {v : AVal}, l[j]? = some v → ∃ u, l'[j]? = some u ∧ VRel esz φ v u := by
  induction l generalizing l' with
  | nil => intro j v e; simp at e
  | cons w l ih =>
    cases h with
    | cons h t =>
      intro j v e
      cases j with
      | zero => simp at e; subst e; exact ⟨_, rfl, h⟩
      | succ j => simpa using ih t (by simpa using e)
theorem VRels.append {a b : List AVal} {a' b' : List Value} (h : VRels esz φ a a') (k : VRels esz φ b b') : VRels esz φ (a ++ b) (a' ++ b') := by
  induction a generalizing a' with
  | nil => cases h; exact k
  | cons v l ih => cases h with | cons h t => exact .cons h (ih t)
theorem VRels.take {a : List AVal} {a' : List Value} (h : VRels esz φ a a') : ∀ n, VRels esz φ (a.take n) (a'.take n) := by
  induction a generalizing a' with
  | nil => cases h; intro n; simp; exact .nil
  | cons v l ih => cases h with
    | cons h t =>
      intro n
      cases n with
      | zero => exact .nil
      | succ n => exact .cons h (ih t n)
theorem VRels.drop {a : List AVal} {a' : List Value} (h : VRels esz φ a a') : ∀ n, VRels esz φ (a.drop n) (a'.drop n) := by
  induction a generalizing a' with
  | nil => cases h; intro n; simp; exact .nil
  | cons v l ih => cases h with
    | cons h t =>
      intro n
      cases n with
      | zero => exact .cons h t
      | succ n => exact ih t n
theorem VRels.set {a : List AVal} {a' : List Value} (h : VRels esz φ a a') : ∀ (n : Nat) {v : AVal} {v' : Value}, VRel esz φ v v' → VRels esz φ (a.set n v) (a'.set n v') := by
  induction a generalizing a' with
  | nil => cases h; intro n v v' _; exact .nil
  | cons w l ih => cases h with
    | cons h t =>
      intro n v v' hv
      cases n with
      | zero => exact .cons hv t
      | succ n => exact .cons h (ih t n hv)
theorem VRels.of_get {l : List AVal} {l' : List Value} (hl : l.length = l'.length) (h : ∀ (j : Nat) (v : AVal) (u : Value), l[j]? = some v → l'[j]? = some u → VRel esz φ v u) : VRels esz φ l l' := by
  induction l generalizing l' with
  | nil => cases l' with
    | nil => exact .nil
    | cons _ _ => simp at hl
  | cons v l ih => cases l' with
    | nil => simp at hl
    | cons u l' => exact .cons (h 0 v u rfl rfl) (ih (by simpa using hl) fun j a b ha hb => h (j + 1) a b (by simpa using ha) (by simpa using hb))
end lists

end Go.Am
