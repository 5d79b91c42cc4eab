/-
  Reads and writes of cells keep the simulation.
-/
import Derived.Test.YtcaajeajakbooaaGreatDoorAmSim
set_option linter.unusedVariables false
set_option linter.unusedSimpArgs false
namespace Go.Am
open Go

theorem nth_eq (l : List AVal) (j : Nat) : nth l j = l[j]? := by
  induction l generalizing j with
  | nil => rfl
  | cons x xs ih =>
    cases j with
    | zero => rfl
    | succ j => rw [List.getElem?_cons_succ]; exact ih j

theorem bool_false {b : Bool} (h : ¬ b = true) : b = false := by cases b <;> simp_all
theorem bif_true {α : Type} {b : Bool} {x y : α} (h : b = true) : (bif b then x else y) = x := by subst h; rfl
theorem bif_false {α : Type} {b : Bool} {x y : α} (h : b = false) : (bif b then x else y) = y := by subst h; rfl
theorem beqN {a b : Nat} : Nat.beq a b = true ↔ a = b := ⟨Nat.eq_of_beq_eq_true, fun h => by subst h; simp⟩
theorem bleN {a b : Nat} : Nat.ble a b = true ↔ a ≤ b := by simp
theorem bltN {a b : Nat} : Nat.blt a b = true ↔ a < b := by simp [Nat.blt]; omega

section live
variable {H : AHeap}
theorem live_some {i : Nat} {cs : List AVal} {e g : Nat} (h : H.live i = some (cs, e, g)) :
    ∃ v, H.objs.get i = some (.cells cs e g v) ∧ v = (H.grp g).ver := by
  unfold AHeap.live at h
  split at h
  · rename_i cs' e' g' v ho
    by_cases hv : Nat.beq v (H.grp g').ver = true
    · rw [bif_true hv] at h; cases h; exact ⟨v, ho, beqN.1 hv⟩
    · rw [bif_false (bool_false hv)] at h; cases h
  · cases h
theorem cell_some {i o : Nat} {v : AVal} (h : H.cell i o = some v) : ∃ cs e g, H.live i = some (cs, e, g) ∧ cs[o]? = some v := by
  unfold AHeap.cell at h
  split at h
  · rename_i cs e g hl; rw [nth_eq] at h; exact ⟨cs, e, g, hl, h⟩
  · cases h
theorem cellsAt_some {i o n : Nat} {l : List AVal} (h : H.cellsAt i o n = some l) :
    ∃ cs e g, H.live i = some (cs, e, g) ∧ o + n ≤ cs.length ∧ l = (cs.drop o).take n := by
  unfold AHeap.cellsAt at h
  split at h
  · rename_i cs e g hl
    by_cases hb : Nat.ble (Nat.add o n) cs.length = true
    · rw [bif_true hb] at h; cases h; exact ⟨cs, e, g, hl, bleN.1 hb, rfl⟩
    · rw [bif_false (bool_false hb)] at h; cases h
  · cases h
theorem cellsAt_length {i o n : Nat} {l : List AVal} (h : H.cellsAt i o n = some l) : l.length = n := by
  obtain ⟨cs, e, g, _, hb, rfl⟩ := cellsAt_some h
  simp; omega
end live

section
variable {esz : TypeId → Nat} {φ : Phi} {G : Nat → Prop} {H : AHeap}

theorem VRel.oneCell {v : AVal} {u : Value} (h : VRel esz φ v u) (hf : flat v = true) : u.oneCell' = true := by
  cases h <;> first | rfl | (simp [flat] at hf; done) | assumption
theorem VRels.oneCell {l : List AVal} {l' : List Value} (h : VRels esz φ l l') (hf : l.all flat = true) : ∀ u ∈ l', u.oneCell' = true := by
  induction l generalizing l' with
  | nil => cases h; intro u hu; cases hu
  | cons v l ih =>
    cases h with
    | cons h t =>
      simp only [List.all_cons, Bool.and_eq_true] at hf
      intro u hu
      cases hu with
      | head => exact h.oneCell hf.1
      | tail _ hu => exact ih t hf.2 u hu

theorem VRel.cells {v : AVal} {u : Value} (h : VRel esz φ v u) : VRels esz φ (acells v) u.cells.toList := by
  cases h with
  | any _ h =>
    cases u <;> first | (simp [Value.oneCell'] at h; done) | exact .cons (.any _ rfl) .nil
  | agg h => exact h
  | _ => exact .cons (by constructor <;> assumption) .nil

/-- What a live object that the memory has comes to. -/
theorem Sim.cells {heap : Array Obj} (S : Sim esz φ G H heap) {i : Nat} {cs : List AVal} {e g : Nat} {p : PI} (hl : H.live i = some (cs, e, g)) (hp : φ i = some p) :
    ∃ c fz, heap[p.blk]? = some (.cells c e fz) ∧ p.elem = e ∧ c.size = p.size ∧ p.base + cs.length ≤ p.size ∧
      (∀ (j : Nat) (v : AVal), cs[j]? = some v → ∃ u, c[p.base + j]? = some u ∧ VRel esz φ v u) ∧ ((H.grp g).fz = false → g ≠ 0 → noFrozen fz p.size) := by
  obtain ⟨v, ho, hv⟩ := live_some hl
  exact S.obj i _ p ho hp hv

theorem Sim.cell {w : World} (S : Sim esz φ G H w.heap) {i o : Nat} {v : AVal} {p : PI} (hc : H.cell i o = some v) (hp : φ i = some p) :
    ∃ u, w.cell? ⟨p.blk, p.base + o, none⟩ = some u ∧ VRel esz φ v u := by
  obtain ⟨cs, e, g, hl, hv⟩ := cell_some hc
  obtain ⟨c, fz, h1, _, _, _, h5, _⟩ := S.cells hl hp
  obtain ⟨u, hu, hr⟩ := h5 o v hv
  exact ⟨u, by simp [World.cell?, h1, hu], hr⟩

theorem addr_add (b o n : Nat) : (⟨b, o, none⟩ : Addr).add n = ⟨b, o + n, none⟩ := by
  unfold Addr.add; split
  · subst_vars; rfl
  · rfl

theorem Sim.loadCells {P : Program} {w : World} (S : Sim esz φ G H w.heap) {i o n : Nat} {l : List AVal} {p : PI} (hc : H.cellsAt i o n = some l) (hp : φ i = some p) :
    ∃ us : List Value, (Go.loadCells ⟨p.blk, p.base + o, none⟩ n).run P w = .ok us.toArray w ∧ VRels esz φ l us := by
  obtain ⟨cs, e, g, hl, hb, rfl⟩ := cellsAt_some hc
  obtain ⟨c, fz, h1, _, _, h4, h5, _⟩ := S.cells hl hp
  have hcell : ∀ j, j < n → ∃ u, w.cell? ⟨p.blk, p.base + o + j, none⟩ = some u ∧ ∀ v, cs[o + j]? = some v → VRel esz φ v u := by
    intro j hj
    have : o + j < cs.length := by omega
    obtain ⟨u, hu, hr⟩ := h5 (o + j) cs[o + j] (by simp [this])
    refine ⟨u, by simp [World.cell?, h1, ← Nat.add_assoc] at hu ⊢; simpa [Nat.add_assoc] using hu, fun v hv => ?_⟩
    simp [this] at hv; rw [← hv]; exact hr
  let f : Nat → Value := fun j => if h : j < n then (hcell j h).choose else undef
  have hf : ∀ j, j < n → w.cell? ((⟨p.blk, p.base + o, none⟩ : Addr).add j) = some (f j) := by
    intro j hj
    rw [addr_add]
    have := (hcell j hj).choose_spec.1
    simp only [f, hj, dite_true]
    exact this
  refine ⟨(List.range n).map f, run_loadCells w _ n f hf, VRels.of_get (by simp; omega) ?_⟩
  intro j v u hv hu
  have hjn : j < n := by
    rcases Nat.lt_or_ge j n with h | h
    · exact h
    · rw [List.getElem?_take, if_neg (by omega)] at hv; cases hv
  rw [List.getElem?_take, if_pos hjn, List.getElem?_drop] at hv
  simp [hjn] at hu
  subst hu
  have := (hcell j hjn).choose_spec.2 v hv
  simp only [f, hjn, dite_true]
  exact this

/-! ### Stores -/
def setFrom (c : Array Value) (o : Nat) : List Value → Array Value
  | [] => c
  | v :: vs => setFrom (c.setIfInBounds o v) (o + 1) vs

theorem setFrom_size (c : Array Value) (o : Nat) (vs : List Value) : (setFrom c o vs).size = c.size := by
  induction vs generalizing c o with
  | nil => rfl
  | cons v vs ih => simp [setFrom, ih]

theorem setFrom_get (c : Array Value) (o : Nat) (vs : List Value) (j : Nat) (hb : o + vs.length ≤ c.size) :
    (setFrom c o vs)[j]? = if o ≤ j ∧ j < o + vs.length then vs[j - o]? else c[j]? := by
  induction vs generalizing c o with
  | nil => rw [if_neg (by simp)]; rfl
  | cons v vs ih =>
    simp only [List.length_cons] at hb
    rw [setFrom, ih _ _ (by simp; omega)]
    by_cases h1 : o + 1 ≤ j ∧ j < o + 1 + vs.length
    · rw [if_pos h1, if_pos (by simp; omega)]
      rw [show j - o = (j - (o + 1)) + 1 by omega]; simp
    · rw [if_neg h1, Array.getElem?_setIfInBounds]
      by_cases h2 : o = j
      · subst h2; rw [if_pos rfl, if_pos (by omega), if_pos (by simp)]; simp
      · rw [if_neg h2, if_neg (by simp; omega)]

theorem setAt_length (cs : List AVal) (o : Nat) (vs : List AVal) : (setAt cs o vs).length = cs.length := by
  induction vs generalizing cs o with
  | nil => rfl
  | cons v vs ih => simp [setAt, ih]
theorem setAt_get (cs : List AVal) (o : Nat) (vs : List AVal) (j : Nat) (hb : o + vs.length ≤ cs.length) :
    (setAt cs o vs)[j]? = if o ≤ j ∧ j < o + vs.length then vs[j - o]? else cs[j]? := by
  induction vs generalizing cs o with
  | nil => rw [if_neg (by simp)]; rfl
  | cons v vs ih =>
    simp only [List.length_cons] at hb
    rw [setAt, ih _ _ (by simp; omega)]
    by_cases h1 : o + 1 ≤ j ∧ j < o + 1 + vs.length
    · rw [if_pos h1, if_pos (by simp; omega)]
      rw [show j - o = (j - (o + 1)) + 1 by omega]; simp
    · rw [if_neg h1, List.getElem?_set]
      by_cases h2 : o = j
      · subst h2; rw [if_pos rfl, if_pos (by omega), if_pos (by simp)]; simp
      · rw [if_neg h2, if_neg (by simp; omega)]

/-- the world with another object in block r -/
def World.withObj (w : World) (r : Nat) (o : Obj) : World := { w with heap := w.heap.setIfInBounds r o }

theorem setCell_withObj {w : World} {r : Nat} {c : Array Value} {e : TypeId} {fz : Nat × Nat} (h : w.heap[r]? = some (.cells c e fz)) (o : Nat) (v : Value) :
    w.setCell ⟨r, o, none⟩ v = World.withObj w r (.cells (c.setIfInBounds o v) e fz) := by
  have hr : r < w.heap.size := by
    rcases Nat.lt_or_ge r w.heap.size with h' | h'
    · exact h'
    · rw [Array.getElem?_eq_none h'] at h; cases h
  unfold World.setCell World.withObj
  congr 1
  apply Array.ext_getElem?
  intro k
  rw [Array.getElem?_modify, Array.getElem?_setIfInBounds]
  by_cases hk : r = k
  · subst hk; rw [if_pos rfl, if_pos rfl, if_pos hr, h]; rfl
  · rw [if_neg hk, if_neg hk]

theorem withObj_withObj (w : World) (r : Nat) (a b : Obj) : World.withObj (World.withObj w r a) r b = World.withObj w r b := by
  unfold World.withObj
  simp only
  congr 1
  apply Array.ext_getElem?
  intro k
  simp only [Array.getElem?_setIfInBounds, Array.size_setIfInBounds]
  by_cases hk : r = k <;> simp [hk]
theorem withObj_self {w : World} {r : Nat} {a : Obj} (h : w.heap[r]? = some a) : World.withObj w r a = w := by
  unfold World.withObj
  have : w.heap.setIfInBounds r a = w.heap := by
    apply Array.ext_getElem?
    intro k
    rw [Array.getElem?_setIfInBounds]
    by_cases hk : r = k
    · subst hk
      rw [if_pos rfl]
      split
      · exact h.symm
      · rename_i hh; rw [Array.getElem?_eq_none (by omega)]
    · rw [if_neg hk]
  rw [this]
theorem withObj_get {w : World} {r : Nat} {a : Obj} (hr : r < w.heap.size) (k : Nat) : (World.withObj w r a).heap[k]? = if r = k then some a else w.heap[k]? := by
  unfold World.withObj
  simp only [Array.getElem?_setIfInBounds]
  by_cases hk : r = k
  · subst hk; simp [hr]
  · simp [hk]
theorem lt_of_get {heap : Array Obj} {r : Nat} {o : Obj} (h : heap[r]? = some o) : r < heap.size := by
  rcases Nat.lt_or_ge r heap.size with h' | h'
  · exact h'
  · rw [Array.getElem?_eq_none h'] at h; cases h

theorem run_storeCells_any (P : Program) (r e : Nat) (fz : Nat × Nat) (n : Nat) (hfz : noFrozen fz n) : ∀ (vs : List Value) (o i : Nat) (c : Array Value) (w : World),
    w.heap[r]? = some (.cells c e fz) → c.size = n → o + i + vs.length ≤ n → (∀ v ∈ vs, v.oneCell' = true) →
    (storeCells ⟨r, o, none⟩ vs i).run P w = .ok () (World.withObj w r (.cells (setFrom c (o + i) vs) e fz)) := by
  intro vs
  induction vs with
  | nil => intro o i c w h _ _ _; simp [storeCells, setFrom, withObj_self h]
  | cons v vs ih =>
    intro o i c w h hn hb hv
    simp only [List.length_cons] at hb
    have hcell : w.cell? ⟨r, o + i, none⟩ = some (c[o + i]'(by omega)) := by simp [World.cell?, h]
    have hfr : w.frozen? ⟨r, o + i, none⟩ = false := by
      have := hfz (o + i) (by omega)
      simp only [World.frozen?, h]
      simp only [not_and, Nat.not_lt] at this
      by_cases h1 : fz.1 ≤ o + i
      · have := this h1; simp; omega
      · simp [h1]
    rw [storeCells, Sem.run_bind, addr_add, run_store P w _ v _ (hv v (by simp)), hcell]
    simp only [hfr, Bool.false_eq_true, if_false, Result.andThen_ok]
    rw [setCell_withObj h]
    have hr := lt_of_get h
    rw [ih o (i + 1) (c.setIfInBounds (o + i) v) _ (by rw [withObj_get hr, if_pos rfl]) (by simpa using hn) (by omega) (fun x hx => hv x (by simp [hx])), withObj_withObj]
    rfl
end
end Go.Am
