/-
  Single operations that make or change memory are those of the model.
-/
import Derived.Test.YtcaajeajakbooaaGreatDoorAmOps12
set_option linter.unusedVariables false
set_option linter.unusedSimpArgs false
namespace Go.Am
open Go

section
variable {esz : TypeId → Nat} {φ : Phi} {P : Program} {w : World} {ρ : Operand → Value} {o : Oper} {G : Nat → Prop} {H : AHeap}

/-- what an operation that makes an object comes to: one block more -/
def NewRes (esz : TypeId → Nat) (φ : Phi) (P : Program) (ρ : Operand → Value) (o : Oper) (w : World) (x : Nat) (v : Nat → AVal) (ob : Nat → AObj) : Prop :=
  ∃ v' w' ob' size elem, (execOp ρ o).run P w = .ok (.value v') w' ∧ w'.heap = w.heap.push ob' ∧ w'.os = w.os ∧ w'.tape = w.tape ∧ w'.output = w.output ∧
    ∀ φ' H', Ext φ φ' → φ' x = some ⟨w.heap.size, 0, size, elem⟩ → VRel esz φ' (v x) v' ∧ ORel esz φ' H' ⟨w.heap.size, 0, size, elem⟩ w'.heap (ob x)

theorem noFrozen_zero (n : Nat) : noFrozen (0, 0) n := fun q _ h => by simp at h
theorem noFrozen_end (n : Nat) : noFrozen (n, n + 1) n := fun q hq h => by simp at h; omega

theorem orel_cells {heap : Array Obj} {b : Nat} {c : Array Value} {e g : Nat} {fz : Nat × Nat} {cs : List AVal} {us : List Value} (h : heap[b]? = some (.cells c e fz)) (hv : VRels esz φ cs us)
    (hp : ∀ (j : Nat) u, us[j]? = some u → c[j]? = some u) (hl : cs.length ≤ c.size) (hfz : noFrozen fz c.size) : ORel esz φ H ⟨b, 0, c.size, e⟩ heap (.cells cs e g 0) := by
  refine ⟨c, fz, h, rfl, rfl, by simpa using hl, ?_, fun _ _ => hfz⟩
  intro j v hj
  obtain ⟨u, h1, h2⟩ := hv.get hj
  exact ⟨u, by simpa using hp j u h1, h2⟩

theorem push_self (heap : Array Obj) (ob : Obj) : (heap.push ob)[heap.size]? = some ob := by simp

theorem repl_get (z : List AVal) : ∀ (n j : Nat), j < n * z.length → (repl z n)[j]? = z[j % z.length]?
  | 0, j, h => by simp at h
  | n + 1, j, h => by
    rw [Nat.add_mul, Nat.one_mul] at h
    rw [repl]
    rcases Nat.lt_or_ge j z.length with hj | hj
    · rw [List.getElem?_append_left hj, Nat.mod_eq_of_lt hj]
    · rw [List.getElem?_append_right hj, repl_get z n (j - z.length) (by omega), ← Nat.mod_eq_sub_mod hj]
theorem repl_length (z : List AVal) : ∀ (n : Nat), (repl z n).length = n * z.length
  | 0 => by simp [repl]
  | n + 1 => by simp [repl, repl_length z n, Nat.add_mul]; omega

theorem repl_rel {z : List AVal} {zv : Array Value} (h : VRels esz φ z zv.toList) (n : Nat) : VRels esz φ (repl z n) (((Array.range (n * z.length)).map (zv[· % zv.size]!)).toList) := by
  have hl := h.length
  simp only [Array.length_toList] at hl
  refine VRels.of_get (by rw [repl_length]; simp) ?_
  intro j v u hv hu
  have hj : j < n * z.length := by
    rcases Nat.lt_or_ge j (n * z.length) with h | h
    · exact h
    · rw [List.getElem?_eq_none (by rw [repl_length]; omega)] at hv; cases hv
  have hz : 0 < z.length := by
    rcases Nat.eq_zero_or_pos z.length with h | h
    · rw [h] at hj; simp at hj
    · exact h
  rw [repl_get z n j hj] at hv
  obtain ⟨u', h1, h2⟩ := h.get hv
  have hm : j % z.length < z.length := Nat.mod_lt _ hz
  have : u = u' := by
    simp only [Array.toList_map, Array.toList_range, List.getElem?_map] at hu
    rw [List.getElem?_range hj] at hu
    simp only [Option.map_some, Option.some.injEq] at hu
    subst hu
    rw [Array.getElem?_toList, hl] at h1
    rw [← hl, Array.getElem!_eq_getD]
    simp only [Array.getD_eq_getD_getElem?]
    rw [hl, h1]; rfl
  subst this
  exact h2

theorem new_alloc {e : TypeId} {z vs : List AVal} {v : Nat → AVal} {ob : Nat → AObj} (hok : okK P o.op (.alloc e z) = true) (hr : VRels esz φ vs ((argsOf o.op).map ρ)) (ha : actK (.alloc e z) vs = .new v ob) (w : World) (x : Nat) :
    NewRes esz φ P ρ o w x v ob := by
  have ha' : aAlloc e z vs = .new v ob := ha
  cases hop : o.op <;> rw [hop] at hok hr <;> first | (simp [okK] at hok; done) | skip
  rename_i e'
  simp only [okK, Bool.and_eq_true, beqN] at hok
  obtain ⟨rfl, hz⟩ := hok
  unfold aAlloc newCells at ha'
  split at ha' <;> cases ha'
  obtain ⟨zv, z1, _⟩ := zeroIs_some (esz := esz) (φ := φ) hz
  refine ⟨.pointer (some ⟨w.heap.size, 0, none⟩), { w with heap := w.heap.push (.cells zv.cells e) }, .cells zv.cells e, zv.cells.size, e, ?_, rfl, rfl, rfl, rfl, ?_⟩
  · simp [execOp, hop, Instr.alloc, z1, newVar, newRow]
  · intro φ' H' hx hp
    obtain ⟨zv', z3, z4⟩ := zeroIs_some (esz := esz) (φ := φ') hz
    have : zv' = zv := by have := z1 w; rw [z3 w] at this; cases this; rfl
    subst this
    exact ⟨.ptr 0 hp, orel_cells (push_self _ _) z4 (fun j u hj => by simpa using hj) (by rw [z4.length]; simp) (noFrozen_zero _)⟩

theorem new_box {e : TypeId} {vs : List AVal} {v : Nat → AVal} {ob : Nat → AObj} (hok : okK P o.op (.box e) = true) (hr : VRels esz φ vs ((argsOf o.op).map ρ)) (ha : actK (.box e) vs = .new v ob) (w : World) (x : Nat) :
    NewRes esz φ P ρ o w x v ob := by
  have ha' : aBox e vs = .new v ob := ha
  cases hop : o.op <;> rw [hop] at hok hr <;> first | (simp [okK] at hok; done) | skip
  rename_i e' y
  simp only [okK, beqN] at hok
  subst hok
  unfold aBox newCells at ha'
  split at ha' <;> cases ha'
  obtain ⟨u, e1, h⟩ := hr.inv1
  simp only [argsOf, List.map_cons, List.map_nil, List.cons.injEq, and_true] at e1
  refine ⟨.pointer (some ⟨w.heap.size, 0, none⟩), { w with heap := w.heap.push (.cells (ρ y).cells e) }, .cells (ρ y).cells e, (ρ y).cells.size, e, ?_, rfl, rfl, rfl, rfl, ?_⟩
  · simp [execOp, hop, Instr.box, newVar, newRow]
  · intro φ' H' hx hp
    rw [← e1] at h
    have hc := (h.mono hx).cells
    exact ⟨.ptr 0 hp, orel_cells (push_self _ _) hc (fun j u hj => by simpa using hj) (by rw [hc.length]; simp) (noFrozen_zero _)⟩

theorem new_mkMap {vs : List AVal} {v : Nat → AVal} {ob : Nat → AObj} (hok : okK P o.op .mkMap = true) (ha : actK .mkMap vs = .new v ob) (w : World) (x : Nat) : NewRes esz φ P ρ o w x v ob := by
  have ha' : aMkMap vs = .new v ob := ha
  cases hop : o.op <;> rw [hop] at hok <;> first | (simp [okK] at hok; done) | skip
  rename_i t r
  cases r with
  | some r => simp [okK] at hok
  | none =>
    unfold aMkMap at ha'
    cases ha'
    refine ⟨.map (some w.heap.size), { w with heap := w.heap.push (.map #[] 0) }, .map #[] 0, 0, 0, ?_, rfl, rfl, rfl, rfl, ?_⟩
    · simp [execOp, hop, Instr.makeMap]
    · intro φ' H' hx hp
      exact ⟨.map hp, #[], 0, push_self _ _, rfl, .nil⟩

theorem new_rngS {vs : List AVal} {v : Nat → AVal} {ob : Nat → AObj} (hok : okK P o.op .rngS = true) (hr : VRels esz φ vs ((argsOf o.op).map ρ)) (ha : actK .rngS vs = .new v ob) (w : World) (x : Nat) : NewRes esz φ P ρ o w x v ob := by
  have ha' : aRngS vs = .new v ob := ha
  cases hop : o.op <;> rw [hop] at hok hr <;> first | (simp [okK] at hok; done) | skip
  rename_i t y
  cases hd : P.underlying t with
  | none => simp [okK, hd] at hok
  | some d =>
    cases d <;> first | (simp [okK, hd] at hok; done) | skip
    unfold aRngS at ha'
    split at ha' <;> cases ha'
    obtain ⟨u, e1, h⟩ := hr.inv1
    simp only [argsOf, List.map_cons, List.map_nil, List.cons.injEq, and_true] at e1
    rw [← e1] at h
    cases hx : ρ y <;> rw [hx] at h <;> first | (cases h; done) | skip
    rename_i s
    cases h
    refine ⟨.pointer (some ⟨w.heap.size, 0, none⟩), { w with heap := w.heap.push (.stringIter s 0) }, .stringIter s 0, 0, 0, ?_, rfl, rfl, rfl, rfl, ?_⟩
    · simp [execOp, hop, hx, Instr.range, run_underlying hd]
    · intro φ' H' hx hp
      exact ⟨.ptr 0 hp, s, push_self _ _, rfl, rfl⟩

theorem new_mkSl {e b : Nat} {z vs : List AVal} {v : Nat → AVal} {ob : Nat → AObj} (hok : okK P o.op (.mkSl e b z) = true) (hr : VRels esz φ vs ((argsOf o.op).map ρ)) (ha : actK (.mkSl e b z) vs = .new v ob) (w : World) (x : Nat) :
    NewRes esz φ P ρ o w x v ob := by
  have ha' : aMkSl e b z vs = .new v ob := ha
  cases hop : o.op <;> rw [hop] at hok hr <;> first | (simp [okK] at hok; done) | skip
  rename_i t ol oc
  cases hd : P.underlying t with
  | none => simp [okK, hd] at hok
  | some d =>
    cases d <;> first | (simp [okK, hd] at hok; done) | skip
    rename_i el
    simp only [okK, hd, Bool.and_eq_true, beqN, Bool.not_eq_true'] at hok
    obtain ⟨⟨⟨⟨rfl, hb⟩, hz⟩, hs⟩, h0⟩ := hok
    have h0 : z.length ≠ 0 := by intro e; rw [e] at h0; simp at h0
    unfold bytesIs at hb
    cases hi : P.info? e with
    | none => simp [hi] at hb
    | some inf =>
      simp only [hi, beqN] at hb
      obtain ⟨_, _, _, _, hsz⟩ := sizeIs_some hs
      unfold aMkSl at ha'
      split at ha' <;> first | (cases ha'; done) | skip
      rename_i kl l kc c
      by_cases hc : (Nat.ble l c && Nat.ble c 1152921504606846975 && Nat.ble (Nat.mul c b) 140737488355328) = true
      · rw [bif_true hc] at ha'
        unfold newCells at ha'
        cases ha'
        simp only [Bool.and_eq_true, bleN] at hc
        obtain ⟨⟨c1, c2⟩, c3⟩ := hc
        have c3 : c * b ≤ 140737488355328 := c3
        obtain ⟨u1, u2, e1, h1, h2⟩ := hr.inv2
        simp only [argsOf, List.map_cons, List.map_nil, List.cons.injEq, and_true] at e1
        obtain ⟨rfl, rfl⟩ := e1
        cases hl : ρ ol <;> rw [hl] at h1 <;> first | (cases h1; done) | skip
        cases h1
        cases hcc : ρ oc <;> rw [hcc] at h2 <;> first | (cases h2; done) | skip
        cases h2
        obtain ⟨zv, z1, _⟩ := zeroIs_some (esz := esz) (φ := φ) hz
        have wl : IntKind.i64.wrap (Int.ofNat l) = (l : Int) := wrap_small rfl (Int.natCast_nonneg _) (by show (l : Int) < 2 ^ 63; omega)
        have wc : IntKind.i64.wrap (Int.ofNat c) = (c : Int) := wrap_small rfl (Int.natCast_nonneg _) (by show (c : Int) < 2 ^ 63; omega)
        refine ⟨.slice (some ⟨w.heap.size, 0, none⟩) l c, { w with heap := w.heap.push (.cells ((Array.range (c * z.length)).map (zv.cells[· % zv.cells.size]!)) e) }, .cells ((Array.range (c * z.length)).map (zv.cells[· % zv.cells.size]!)) e, c * z.length, e, ?_, rfl, rfl, rfl, rfl, ?_⟩
        · have t1 : ¬ ((b : Int) * (c : Int) > 2 ^ 48) := by
            have : (b : Int) * (c : Int) ≤ 140737488355328 := by rw [Int.mul_comm, ← Int.natCast_mul]; exact Int.ofNat_le.2 c3
            omega
          simp only [execOp, hop, hl, hcc, Instr.makeSlice, Sem.run_bind, run_underlying hd, Result.andThen_ok, asInt, asIntOf, Sem.run_pure, run_typeInfo w hi, hb, wl, wc]
          have hcond : (decide ((c : Int) < 0) || decide ((b : Int) * (c : Int) > 2 ^ 48) || decide ((l : Int) < 0) || decide ((l : Int) > (c : Int))) = false := by
            simp only [Bool.or_eq_false_iff, decide_eq_false_iff_not]
            exact ⟨⟨⟨by omega, t1⟩, by omega⟩, by omega⟩
          rw [hcond]
          simp only [Bool.false_eq_true, if_false, Sem.run_bind, run_askRoom, Result.andThen_ok, hsz, Int.toNat_natCast]
          by_cases hz0 : c * z.length = 0
          · rw [if_pos hz0, hz0]
            simp [newRow]
            congr 2
            apply Array.ext'
            simp
          · rw [if_neg hz0]
            simp [z1, newRow]
        · intro φ' H' hx hp
          obtain ⟨zv', z3, z4⟩ := zeroIs_some (esz := esz) (φ := φ') hz
          have : zv' = zv := by have := z1 w; rw [z3 w] at this; cases this; rfl
          subst this
          refine ⟨.slx 0 l c hp, ?_⟩
          have hrel := repl_rel z4 c
          have hsize : ((Array.range (c * z.length)).map (zv'.cells[· % zv'.cells.size]!)).size = c * z.length := by simp
          have := orel_cells (esz := esz) (φ := φ') (H := H') (g := x) (push_self w.heap (.cells ((Array.range (c * z.length)).map (zv'.cells[· % zv'.cells.size]!)) e)) hrel (fun j u hj => by rw [Array.getElem?_toList] at hj; exact hj) (by rw [repl_length, hsize]; exact Nat.le_refl _) (noFrozen_zero _)
          rw [hsize] at this
          exact this
      · rw [bif_false (bool_false hc)] at ha'; cases ha'

theorem new_buildSl {e n : Nat} {z : List AVal} {ps : List (Nat × Nat)} {vs : List AVal} {v : Nat → AVal} {ob : Nat → AObj} (hok : okK P o.op (.buildSl e n z ps) = true) (hr : VRels esz φ vs ((argsOf o.op).map ρ))
    (ha : actK (.buildSl e n z ps) vs = .new v ob) (w : World) (x : Nat) : NewRes esz φ P ρ o w x v ob := by
  have ha' : aBuildSl e n z ps vs = .new v ob := ha
  cases hop : o.op <;> rw [hop] at hok hr <;> first | (simp [okK] at hok; done) | skip
  rename_i t n' l
  simp only [okK, Bool.and_eq_true, beqN] at hok
  obtain ⟨⟨hnn, hz⟩, hd⟩ := hok
  obtain rfl := hnn.symm
  cases hdd : P.underlying t with
  | none => simp [hdd] at hd
  | some d =>
    cases d <;> first | (simp [hdd] at hd; done) | skip
    rename_i el
    cases hi : P.info? e with
    | none => simp [hdd, hi] at hd
    | some inf =>
      simp only [hdd, hi, Bool.and_eq_true, beqN, bleN, Bool.not_eq_true'] at hd
      obtain ⟨⟨⟨⟨rfl, hsz⟩, h0⟩, hle⟩, hpl⟩ := hd
      have hle : n * inf.size ≤ 16777216 := hle
      have hcs : P.cellsOf e = inf.size := by simp [Program.cellsOf, hi]
      unfold aBuildSl at ha'
      cases hf : afill (repl z n) ps vs with
      | none => rw [hf] at ha'; cases ha'
      | some r =>
        rw [hf] at ha'
        unfold newCells at ha'
        cases ha'
        obtain ⟨zv, z1, z2⟩ := zeroIs_some (esz := esz) (φ := φ) hz
        obtain ⟨p1, p2⟩ := placesA_ok _ _ hpl
        have hr' : VRels esz φ vs (l.toList.map fun p => ρ p.2) := by simpa [argsOf, List.map_map, Function.comp_def] using hr
        have hpl : (l.map fun (i, x) => (i, ρ x)).toList = l.toList.map fun p => (p.1, ρ p.2) := by simp
        have hrel := repl_rel z2 n
        obtain ⟨r', e1, hrr⟩ := fill_rel (ρ := ρ) (fun k => some (k * inf.size, inf.size)) l.toList ps vs (repl z n) r ((Array.range (n * z.length)).map (zv.cells[· % zv.cells.size]!)) p1 (fun j k x off m a b => by
          obtain ⟨f1, f2⟩ := p2 j k x off m a b
          subst f1; subst f2; rfl) hr' hrel hf
        refine ⟨.slice (some ⟨w.heap.size, 0, none⟩) n n, { w with heap := w.heap.push (.cells r' e) }, .cells r' e, r'.size, e, ?_, rfl, rfl, rfl, rfl, ?_⟩
        · have hbig : ¬ (n * inf.size > 2 ^ 24) := by omega
          simp only [execOp, hop, Instr.buildSlice, Sem.run_bind, run_underlying hdd, Result.andThen_ok, run_sizeOf w hi, hcs]
          rw [if_neg hbig]
          by_cases hz0 : n * inf.size = 0
          · rw [if_pos hz0]
            rw [← hsz] at e1
            rw [hz0] at e1 ⊢
            have e2 : Array.map (fun x => (#[] : Array Value)[x % (#[] : Array Value).size]!) (Array.range 0) = Array.map (fun x => zv.cells[x % zv.cells.size]!) (Array.range 0) := by simp
            simp only [Sem.run_pure, Sem.run_bind, Result.andThen_ok, hpl]
            rw [e2, e1]
            simp [newRow]
          · rw [if_neg hz0]
            rw [← hsz] at e1
            simp only [Sem.run_pure, Sem.run_bind, Result.andThen_ok, z1, hpl, e1]
            simp [newRow]
        · intro φ' H' hx hp
          exact ⟨.slx 0 n n hp, orel_cells (push_self _ _) (hrr.mono hx) (fun j u hj => by rw [Array.getElem?_toList] at hj; exact hj) (by rw [hrr.length]; simp) (noFrozen_zero _)⟩

theorem freeze_push (w : World) (c : Array Value) (e : TypeId) (off : Nat) : World.freeze { w with heap := w.heap.push (.cells c e (0, 0)) } ⟨w.heap.size, off, none⟩ 1 = { w with heap := w.heap.push (.cells c e (off, off + 1)) } := by
  unfold World.freeze
  rw [if_neg (by simp)]
  simp only
  congr 1
  apply Array.ext_getElem?
  intro i
  rw [Array.getElem?_modify, Array.getElem?_push, Array.getElem?_push]
  by_cases h : w.heap.size = i
  · rw [if_pos h, if_pos h.symm, if_pos h.symm]; rfl
  · rw [if_neg h, if_neg (Ne.symm h), if_neg (Ne.symm h)]

theorem byteCells_rel (s : ByteArray) : VRels esz φ (byteCells (ofBytes s)) (s.data.map fun b => Value.int .u8 b.toNat).toList := by
  have : ∀ l : List UInt8, VRels esz φ (byteCells (l.map UInt8.toNat)) (l.map fun b => Value.int .u8 b.toNat) := by
    intro l
    induction l with
    | nil => exact .nil
    | cons b l ih => exact .cons (.int _ _) ih
  have h := this s.data.toList
  simpa [ofBytes] using h

theorem byteCells_length (l : List Nat) : (byteCells l).length = l.length := by
  induction l with
  | nil => rfl
  | cons b l ih => simp [byteCells, ih]

theorem new_bytes {c : ConvK} {vs : List AVal} {v : Nat → AVal} {ob : Nat → AObj} (hesz : ∀ t, esz t = P.cellsOf t) (hok : okK P o.op (.conv c) = true) (hr : VRels esz φ vs ((argsOf o.op).map ρ)) (ha : actK (.conv c) vs = .new v ob) (w : World) (x : Nat) :
    NewRes esz φ P ρ o w x v ob := by
  obtain ⟨s, d, y, sd, dd, hop, hs, hd⟩ := okConv hok
  rw [hop] at hok hr
  simp only [okK, hs, hd] at hok
  cases c with
  | int k =>
    have ha' : cInt k vs = .new v ob := ha
    unfold cInt at ha'; split at ha' <;> cases ha'
  | same =>
    have ha' : cSame vs = .new v ob := ha
    unfold cSame at ha'; split at ha' <;> cases ha'
  | ptrUns n =>
    have ha' : cPtrUns n vs = .new v ob := ha
    unfold cPtrUns at ha'
    split at ha' <;> first | (cases ha'; done) | skip
    cases hb : Nat.beq n 0 <;> rw [hb] at ha' <;> cases ha'
  | unsPtr u n =>
    have ha' : cUnsPtr u n vs = .new v ob := ha
    unfold cUnsPtr at ha'
    split at ha' <;> first | (cases ha'; done) | skip
    cases hb : Nat.beq n 0 <;> rw [hb] at ha' <;> cases ha'
  | strOfBytes =>
    have ha' : cStrOf vs = .new v ob := ha
    unfold cStrOf at ha'
    split at ha' <;> first | (cases ha'; done) | skip
    rename_i n _ _
    cases hb : Nat.beq n 0 <;> rw [hb] at ha' <;> cases ha'
  | bytes e =>
    cases sd <;> first | (simp at hok; done) | skip
    cases dd <;> first | (simp at hok; done) | skip
    rename_i el
    simp only [Bool.and_eq_true, beqN] at hok
    obtain ⟨⟨rfl, hsz⟩, hel⟩ := hok
    obtain ⟨_, _, _, hcs, _⟩ := sizeIs_some hsz
    cases hde : P.underlying e with
    | none => simp [hde] at hel
    | some de =>
      cases de <;> simp only [hde, Bool.false_eq_true] at hel
      rename_i kd
      have hkd : kd = .u8 := by cases kd <;> simp_all
      subst hkd
      have ha' : cBytes e vs = .new v ob := ha
      unfold cBytes at ha'
      split at ha' <;> first | (cases ha'; done) | skip
      unfold newCells at ha'
      cases ha'
      obtain ⟨u, e1, h⟩ := hr.inv1
      simp only [argsOf, List.map_cons, List.map_nil, List.cons.injEq, and_true] at e1
      rw [← e1] at h
      cases hx : ρ y <;> rw [hx] at h <;> first | (cases h; done) | skip
      rename_i bs
      cases h
      have hcap : ∃ cap, bs.size ≤ cap ∧ (choose (.appendCap bs.size 0 e)).run P w = .ok cap { w with drawn := w.drawn + 1 } := by
        refine ⟨_, ?_, run_choose ..⟩
        show bs.size ≤ bs.size + _
        omega
      obtain ⟨cap, hle, hch⟩ := hcap
      let c : Array Value := (bs.data.map fun b => Value.int .u8 b.toNat) ++ Array.replicate (cap - bs.size) (.int .u8 0)
      have hsize : c.size = cap := by
        simp only [c, Array.size_append, Array.size_map, Array.size_replicate]
        show bs.size + (cap - bs.size) = cap
        omega
      refine ⟨.slice (some ⟨w.heap.size, 0, none⟩) bs.size cap, { w with heap := w.heap.push (.cells c e (c.size, c.size + 1)), drawn := w.drawn + 1 }, .cells c e (c.size, c.size + 1), c.size, e, ?_, rfl, rfl, rfl, rfl, ?_⟩
      · simp only [execOp, hop, hx, convert, Sem.run_bind, run_underlying hs, run_underlying hd, Result.andThen_ok, run_underlying hde, Conv.stringToBytes, hch]
        simp only [newRow, Sem.run_bind, run_newObj, Result.andThen_ok, Sem.run_pure, markStringish, run_shape]
        rw [shape_cells (push_self _ _)]
        simp only [run_freeze, Sem.run_bind, Result.andThen_ok, Sem.run_pure]
        have hfz := freeze_push { w with drawn := w.drawn + 1 } c e c.size
        rw [← hfz]
      · intro φ' H' hx hp
        have hb := byteCells_rel (esz := esz) (φ := φ') bs
        have hl : (ofBytes bs).length = bs.size := ofBytes_length bs
        refine ⟨?_, orel_cells (push_self _ _) hb ?_ (by rw [byteCells_length, hl, hsize]; exact hle) (noFrozen_end _)⟩
        · have := VRel.sli (esz := esz) (φ := φ') 0 (ofBytes bs).length (ofBytes bs).length cap (ez := 1) hp (by simp) (by rw [hesz, hcs]) (by rw [hl]; exact hle) (by simp [hsize])
          rw [hl] at this
          rw [hl]
          exact this
        · intro j u hj
          rw [Array.getElem?_toList] at hj
          have : j < (bs.data.map fun b => Value.int .u8 b.toNat).size := by
            rcases Nat.lt_or_ge j (bs.data.map fun b => Value.int .u8 b.toNat).size with h | h
            · exact h
            · rw [Array.getElem?_eq_none h] at hj; cases hj
          rw [Array.getElem?_append_left this]
          exact hj
end
end Go.Am

namespace Go.Am
open Go

inductive ResRel (esz : TypeId → Nat) (φ : Phi) : AVal → Next → Prop
  | value {v : AVal} {v' : Value} (h : VRel esz φ v v') : ResRel esz φ v (.value v')
  | skip : ResRel esz φ (.tup []) .skip

/-- what an operation that changes the memory comes to -/
def EffRes (esz : TypeId → Nat) (G : Nat → Prop) (P : Program) (ρ : Operand → Value) (o : Oper) (N : Nat) (φ : Phi) (H : AHeap) (w : World) (v : AVal) (H' : AHeap) : Prop :=
  ∃ φ' nx w', (execOp ρ o).run P w = .ok nx w' ∧ ResRel esz φ' v nx ∧ Sim esz φ' G H' w'.heap ∧ Step N φ H w φ' H' w'

section
variable {esz : TypeId → Nat} {φ : Phi} {P : Program} {w : World} {ρ : Operand → Value} {o : Oper} {G : Nat → Prop} {H H' : AHeap} {N : Nat}

theorem All2.of_get {α β : Type} {R : α → β → Prop} : ∀ {l : List α} {m : List β}, l.length = m.length → (∀ (j : Nat) (x : α) (y : β), l[j]? = some x → m[j]? = some y → R x y) → All2 R l m
  | [], [], _, _ => .nil
  | [], _ :: _, h, _ => by simp at h
  | _ :: _, [], h, _ => by simp at h
  | x :: l, y :: m, h, k => .cons (k 0 x y rfl rfl) (All2.of_get (by simpa using h) fun j a b e1 e2 => k (j + 1) a b (by simpa using e1) (by simpa using e2))

theorem All2.append1 {α β : Type} {R : α → β → Prop} {l : List α} {m : List β} (h : All2 R l m) {x : α} {y : β} (k : R x y) : All2 R (l ++ [x]) (m ++ [y]) := by
  induction h with
  | nil => exact .cons k .nil
  | cons h t ih => exact .cons h ih
theorem All2.eraseIdx {α β : Type} {R : α → β → Prop} {l : List α} {m : List β} (h : All2 R l m) : ∀ j, All2 R (l.eraseIdx j) (m.eraseIdx j) := by
  induction h with
  | nil => intro j; exact .nil
  | cons h t ih =>
    intro j
    cases j with
    | zero => exact t
    | succ j => exact .cons h (ih j)

theorem eff_store {n : Nat} {vs : List AVal} {v : AVal} {f : AHeap → Option (AVal × AHeap)} (hok : okK P o.op (.store n) = true) (hr : VRels esz φ vs ((argsOf o.op).map ρ)) (ha : actK (.store n) vs = .eff f) (hf : f H = some (v, H'))
    (S : Sim esz φ G H w.heap) : EffRes esz G P ρ o N φ H w v H' := by
  have ha' : aStore n vs = .eff f := ha
  cases hop : o.op <;> rw [hop] at hok hr <;> first | (simp [okK] at hok; done) | skip
  rename_i t x y
  unfold aStore at ha'
  split at ha' <;> first | (cases ha'; done) | skip
  rename_i i off val
  by_cases hb : Nat.beq (acells val).length n = true
  · rw [bif_true hb] at ha'; cases ha'
    rw [beqN] at hb
    unfold eStore at hf
    cases hs : H.store i off (acells val) with
    | none => rw [hs] at hf; cases hf
    | some H1 =>
      rw [hs] at hf; cases hf
      obtain ⟨u1, u2, e1, h1, h2⟩ := hr.inv2
      simp only [argsOf, List.map_cons, List.map_nil, List.cons.injEq, and_true] at e1
      obtain ⟨rfl, rfl⟩ := e1
      cases hx : ρ x <;> rw [hx] at h1 <;> first | (cases h1; done) | skip
      cases h1 with
      | @ptr _ _ p hp =>
      obtain ⟨w', r1, r2, r3⟩ := S.store (P := P) (N := N) hs hp h2.cells
      refine ⟨φ, .skip, w', ?_, .skip, r2, r3⟩
      obtain ⟨_, _, _, _, hsz⟩ := sizeIs_some (P := P) (t := t) (n := n) (by simpa [okK] using hok)
      have hl := h2.cells.length
      simp only [Array.length_toList] at hl
      have hne : ¬ ((ρ y).cells.size ≠ n) := by omega
      simp only [execOp, hop, hx, Instr.storeAt, Instr.sureAddr, Sem.run_bind, Sem.run_pure, Result.andThen_ok, storeVar, hsz]
      rw [if_neg hne]
      simp [r1]
  · rw [bif_false (bool_false hb)] at ha'; cases ha'

theorem okMset {e : EqK} (hok : okK P o.op (.mset e) = true) : ∃ t m k x kt el, (o.op = .mapUpdate t m k x ∨ o.op = .insert t m k x) ∧ argsOf o.op = [m, k, x] ∧ P.underlying t = some (.map kt el) ∧ eqkIs P 8 e kt = true ∧ noArr P kt = true := by
  cases hop : o.op <;> rw [hop] at hok <;> first | (simp [okK] at hok; done) | skip
  all_goals
    rename_i t m u x
    simp only [okK] at hok
    cases hdd : P.underlying t with
    | none => simp [hdd] at hok
    | some d =>
      cases d <;> first | (simp [hdd] at hok; done) | skip
      rename_i kt el
      simp only [hdd, Bool.and_eq_true] at hok
      exact ⟨t, m, u, x, kt, el, by simp, rfl, hdd, hok.1, hok.2⟩

/-- the parts of a map's object -/
theorem map_obj {i : Nat} {es : List (AVal × AVal × Nat)} {clock : Nat} {p : PI} (S : Sim esz φ G H w.heap) (ho : H.objs.get i = some (.map es clock false)) (hp : φ i = some p) :
    ∃ es', w.heap[p.blk]? = some (.map es' clock) ∧ All2 (ERelB esz φ) es es'.toList := by
  obtain ⟨es', clock', h1, h2, h3⟩ := S.obj i _ p ho hp trivial
  subst h2
  exact ⟨es', h1, h3⟩

theorem map_put {i : Nat} {es es2 : List (AVal × AVal × Nat)} {clock clock2 : Nat} {p : PI} {es' : Array MapEntry} (S : Sim esz φ G H w.heap) (ho : H.objs.get i = some (.map es clock false)) (hp : φ i = some p) (hb : p.blk < w.heap.size)
    (hr : All2 (ERelB esz φ) es2 es'.toList) :
    Sim esz φ G (H.setObj i (.map es2 clock2 false)) (w.heap.setIfInBounds p.blk (.map es' clock2)) ∧ Step N φ H w φ (H.setObj i (.map es2 clock2 false)) { w with heap := w.heap.setIfInBounds p.blk (.map es' clock2) } :=
  ⟨S.setObj ho hp rfl rfl ⟨es', clock2, by rw [Array.getElem?_setIfInBounds]; simp [hb], rfl, hr⟩, Step.setObj ho hp rfl rfl rfl rfl rfl rfl⟩

theorem setE_rel {es : List (AVal × AVal × Nat)} {es' : Array MapEntry} (h : All2 (ERelB esz φ) es es'.toList) (j : Nat) (x : AVal × AVal × Nat) (f : MapEntry → MapEntry) (hf : ∀ y, es'[j]? = some y → ERelB esz φ x (f y)) :
    All2 (ERelB esz φ) (setE es j x) (es'.modify j f).toList := by
  refine All2.of_get (by unfold setE; rw [List.length_set, h.length]; simp) ?_
  intro k a b e1 e2
  unfold setE at e1
  rw [Array.getElem?_toList, Array.getElem?_modify] at e2
  rw [List.getElem?_set] at e1
  by_cases hjk : j = k
  · subst hjk
    rw [if_pos rfl] at e1 e2
    cases hq : es'[j]? with
    | none => rw [hq] at e2; cases e2
    | some y =>
      rw [hq] at e2
      simp only [Option.map_some, Option.some.injEq] at e2
      subst e2
      split at e1
      · cases e1; exact hf y hq
      · cases e1
  · rw [if_neg hjk] at e1 e2
    exact h.get e1 (by rw [Array.getElem?_toList]; exact e2)

theorem eff_mset {e : EqK} {vs : List AVal} {v : AVal} {f : AHeap → Option (AVal × AHeap)} (hok : okK P o.op (.mset e) = true) (hr : VRels esz φ vs ((argsOf o.op).map ρ)) (ha : actK (.mset e) vs = .eff f) (hf : f H = some (v, H'))
    (S : Sim esz φ G H w.heap) : EffRes esz G P ρ o N φ H w v H' := by
  have ha' : aMset e vs = .eff f := ha
  obtain ⟨t, om, ok, ox, kt, el, hop, hargs, hd, hk, hna⟩ := okMset hok
  rw [hargs] at hr
  unfold aMset at ha'
  split at ha' <;> first | (cases ha'; done) | skip
  rename_i i key val
  by_cases hb : keyOk e key = true
  · rw [bif_true hb] at ha'; cases ha'
    obtain ⟨u1, u2, u3, e1, h1, h2, h3⟩ := hr.inv3
    simp only [List.map_cons, List.map_nil, List.cons.injEq, and_true] at e1
    obtain ⟨rfl, rfl, rfl⟩ := e1
    unfold eMset at hf
    split at hf <;> first | (cases hf; done) | skip
    rename_i es clock ho
    cases hx : ρ om <;> rw [hx] at h1 <;> first | (cases h1; done) | skip
    cases h1 with
    | @map _ p hp =>
    obtain ⟨es', g1, g2⟩ := map_obj S ho hp
    have hlt : p.blk < w.heap.size := S.bnd i p hp
    cases hq : afind key es 0 with
    | none => rw [hq] at hf; cases hf
    | some r =>
      obtain ⟨q, q1, q2⟩ := findKey_rel hk hb h2 w (g2.imp fun _ _ e => e.toERel) hq
      have hc := check_key (b := false) (d := 6) hk hna hb h2 w 9998
      have run : ∀ w', (Instr.mapUpdate t (ρ om) (ρ ok) (ρ ox)).run P w = .ok () w' → (execOp ρ o).run P w = .ok .skip w' := by
        intro w' hw
        rcases hop with hop | hop <;> simp [execOp, hop, hw]
      rw [hq] at hf
      cases r with
      | none =>
        cases hf
        cases q with
        | some q => simp [FR] at q2
        | none =>
          obtain ⟨s1, s2⟩ := map_put (N := N) (w := w) (es' := es'.push { key := ρ ok, val := ρ ox, born := clock }) (clock2 := clock + 1) S ho hp hlt (es2 := es ++ [(key, val, clock)])
            (by rw [Array.toList_push]; exact g2.append1 ⟨⟨h2, h3⟩, rfl⟩)
          refine ⟨φ, .skip, _, run _ ?_, .skip, s1, s2⟩
          simp [Instr.mapUpdate, run_underlying hd, hx, MapKept.run_getObj_map g1, hc, q1, MapKept.run_setObj_map _ g1]
      | some r =>
        obtain ⟨j, v0, b⟩ := r
        cases hf
        cases q with
        | none => simp [FR] at q2
        | some q =>
          obtain ⟨j', v0'⟩ := q
          obtain ⟨e1, _, x, e3, e4⟩ := q2
          obtain rfl := e1.symm
          rw [Nat.sub_zero, Array.getElem?_toList] at e3
          obtain ⟨_, k0, k1, k2⟩ := afind_some es 0 j v0 b hq
          rw [Nat.sub_zero] at k1
          have hxr := g2.get k1 (by rw [Array.getElem?_toList]; exact e3)
          have hsame := keq_same k2 h2 hxr.key
          obtain ⟨s1, s2⟩ := map_put (N := N) (w := w) (es' := es'.modify j fun e => { e with key := ρ ok, val := ρ ox }) (clock2 := clock) S ho hp hlt (es2 := setE es j (key, val, b))
            (setE_rel g2 j _ _ fun y hy => by rw [e3] at hy; cases hy; exact ⟨⟨h2, h3⟩, hxr.born⟩)
          refine ⟨φ, .skip, _, run _ ?_, .skip, s1, s2⟩
          simp [Instr.mapUpdate, run_underlying hd, hx, MapKept.run_getObj_map g1, hc, q1, e3, Instr.keyThatStays, hsame, MapKept.run_setObj_map _ g1]
  · rw [bif_false (bool_false hb)] at ha'; cases ha'
end
end Go.Am

namespace Go.Am
open Go

section
variable {esz : TypeId → Nat} {φ : Phi} {P : Program} {w : World} {ρ : Operand → Value} {o : Oper} {G : Nat → Prop} {H H' : AHeap} {N : Nat}

theorem eff_ment {e : EqK} {z : AVal} {vs : List AVal} {v : AVal} {f : AHeap → Option (AVal × AHeap)} (hok : okK P o.op (.ment e z) = true) (hr : VRels esz φ vs ((argsOf o.op).map ρ)) (ha : actK (.ment e z) vs = .eff f)
    (hf : f H = some (v, H')) (S : Sim esz φ G H w.heap) : EffRes esz G P ρ o N φ H w v H' := by
  have ha' : aMent e z vs = .eff f := ha
  cases hop : o.op <;> rw [hop] at hok hr <;> first | (simp [okK] at hok; done) | skip
  rename_i t om ok
  simp only [okK] at hok
  cases hd : P.underlying t with
  | none => simp [hd] at hok
  | some d =>
    cases d <;> first | (simp [hd] at hok; done) | skip
    rename_i kt el
    simp only [hd, Bool.and_eq_true] at hok
    obtain ⟨⟨hk, hna⟩, hz⟩ := hok
    obtain ⟨zv, z1, z2⟩ := zeroVIs_some (esz := esz) (φ := φ) hz
    unfold aMent at ha'
    split at ha' <;> first | (cases ha'; done) | skip
    rename_i i key
    by_cases hb : keyOk e key = true
    · rw [bif_true hb] at ha'; cases ha'
      obtain ⟨u1, u2, e1, h1, h2⟩ := hr.inv2
      simp only [argsOf, List.map_cons, List.map_nil, List.cons.injEq, and_true] at e1
      obtain ⟨rfl, rfl⟩ := e1
      unfold eMent at hf
      split at hf <;> first | (cases hf; done) | skip
      rename_i es clock ho
      cases hx : ρ om <;> rw [hx] at h1 <;> first | (cases h1; done) | skip
      cases h1 with
      | @map _ p hp =>
      obtain ⟨es', g1, g2⟩ := map_obj S ho hp
      have hlt : p.blk < w.heap.size := S.bnd i p hp
      cases hq : afind key es 0 with
      | none => rw [hq] at hf; cases hf
      | some r =>
        obtain ⟨q, q1, q2⟩ := findKey_rel hk hb h2 w (g2.imp fun _ _ e => e.toERel) hq
        have hc := check_key (b := false) (d := 6) hk hna hb h2 w 9998
        rw [hq] at hf
        cases r with
        | none =>
          cases hf
          cases q with
          | some q => simp [FR] at q2
          | none =>
            obtain ⟨s1, s2⟩ := map_put (N := N) (w := w) (es' := es'.push { key := ρ ok, val := zv, born := clock }) (clock2 := clock + 1) S ho hp hlt (es2 := es ++ [(key, z, clock)])
              (by rw [Array.toList_push]; exact g2.append1 ⟨⟨h2, z2⟩, rfl⟩)
            refine ⟨φ, .value (.tuple #[zv, .int .i64 (clock : Int)]), _, ?_, .value (.tup (.cons z2 (.cons (.int _ _) .nil))), s1, s2⟩
            simp [execOp, hop, Instr.mapEntry, run_underlying hd, hx, MapKept.run_getObj_map g1, hc, q1, z1, MapKept.run_setObj_map _ g1, goInt]
        | some r =>
          obtain ⟨j, v0, b⟩ := r
          cases hf
          cases q with
          | none => simp [FR] at q2
          | some q =>
            obtain ⟨j', v0'⟩ := q
            obtain ⟨e1, _, x, e3, e4⟩ := q2
            obtain rfl := e1.symm
            rw [Nat.sub_zero, Array.getElem?_toList] at e3
            obtain ⟨_, k0, k1, k2⟩ := afind_some es 0 j v0 b hq
            rw [Nat.sub_zero] at k1
            have hxr := g2.get k1 (by rw [Array.getElem?_toList]; exact e3)
            have hsame := keq_same k2 h2 hxr.key
            have hval : VRel esz φ v0 v0' := by rw [← e4]; exact hxr.val
            have hborn : x.born = b := hxr.born
            obtain ⟨s1, s2⟩ := map_put (N := N) (w := w) (es' := es'.modify j fun e => { e with key := ρ ok }) (clock2 := clock) S ho hp hlt (es2 := setE es j (key, v0, b))
              (setE_rel g2 j _ _ fun y hy => by rw [e3] at hy; cases hy; exact ⟨⟨h2, hxr.val⟩, hxr.born⟩)
            refine ⟨φ, .value (.tuple #[v0', .int .i64 (b : Int)]), _, ?_, .value (.tup (.cons hval (.cons (.int _ _) .nil))), s1, s2⟩
            simp [execOp, hop, Instr.mapEntry, run_underlying hd, hx, MapKept.run_getObj_map g1, hc, q1, e3, Instr.keyThatStays, hsame, MapKept.run_setObj_map _ g1, goInt, hborn]
    · rw [bif_false (bool_false hb)] at ha'; cases ha'

theorem eff_del {e : EqK} {vs : List AVal} {v : AVal} {f : AHeap → Option (AVal × AHeap)} (hok : okK P o.op (.del e) = true) (hr : VRels esz φ vs ((argsOf o.op).map ρ)) (ha : actK (.del e) vs = .eff f)
    (hf : f H = some (v, H')) (S : Sim esz φ G H w.heap) : EffRes esz G P ρ o N φ H w v H' := by
  have ha' : aDel e vs = .eff f := ha
  cases hop : o.op <;> rw [hop] at hok hr <;> first | (simp [okK] at hok; done) | skip
  rename_i c
  cases hc : c.callee <;> simp only [okK, hc] at hok <;> first | (cases hok; done) | skip
  rename_i b
  cases b <;> simp only [Bool.false_eq_true] at hok
  simp only [Bool.and_eq_true] at hok
  obtain ⟨hd, h0⟩ := hok
  rw [args_builtin hc] at hr
  have e0 := arg0 h0
  generalize hT : c.argTypes.getD 0 0 = T at *
  cases hdd : P.underlying T with
  | none => simp [hdd] at hd
  | some d =>
    cases d <;> first | (simp [hdd] at hd; done) | skip
    rename_i kt el
    simp only [hdd, Bool.and_eq_true] at hd
    obtain ⟨hk, hna⟩ := hd
    unfold aDel at ha'
    split at ha' <;> first | (cases ha'; done) | skip
    rename_i i key
    by_cases hb : keyOk e key = true
    · rw [bif_true hb] at ha'; cases ha'
      obtain ⟨u1, u2, e1, h1, h2⟩ := hr.inv2
      unfold eDel at hf
      split at hf <;> first | (cases hf; done) | skip
      rename_i es clock ho
      cases h1 with
      | @map _ p hp =>
      obtain ⟨es', g1, g2⟩ := map_obj S ho hp
      have hlt : p.blk < w.heap.size := S.bnd i p hp
      cases hq : afind key es 0 with
      | none => rw [hq] at hf; cases hf
      | some r =>
        obtain ⟨q, q1, q2⟩ := findKey_rel hk hb h2 w (g2.imp fun _ _ e => e.toERel) hq
        have hck := check_key (b := es'.isEmpty) (d := 6) hk hna hb h2 w 9998
        rw [hq] at hf
        cases r with
        | none =>
          cases hf
          cases q with
          | some q => simp [FR] at q2
          | none =>
            have hself : ({ w with heap := w.heap.setIfInBounds p.blk (.map es' clock) } : World) = w := by
              have := withObj_self g1
              exact this
            refine ⟨φ, .value (.tuple #[]), w, ?_, .value (.tup .nil), S, Step.refl N φ H w⟩
            rw [call_builtin hop hc, args_eq e1]
            simp [builtin, Builtin.delete_, e0, run_underlying hdd, MapKept.run_getObj_map g1, hck, q1, MapKept.run_setObj_map _ g1, hself]
        | some r =>
          obtain ⟨j, v0, b⟩ := r
          cases hf
          cases q with
          | none => simp [FR] at q2
          | some q =>
            obtain ⟨j', v0'⟩ := q
            obtain ⟨e1', _, x, e3, e4⟩ := q2
            obtain rfl := e1'.symm
            rw [Nat.sub_zero, Array.getElem?_toList] at e3
            have hj : j < es'.size := by
              rcases Nat.lt_or_ge j es'.size with h | h
              · exact h
              · rw [Array.getElem?_eq_none h] at e3; cases e3
            have hli : (es'.eraseIdxIfInBounds j).toList = es'.toList.eraseIdx j := by
              unfold Array.eraseIdxIfInBounds
              rw [dif_pos hj, Array.toList_eraseIdx]
            obtain ⟨s1, s2⟩ := map_put (N := N) (w := w) (es' := es'.eraseIdxIfInBounds j) (clock2 := clock) S ho hp hlt (es2 := es.eraseIdx j) (by rw [hli]; exact g2.eraseIdx j)
            refine ⟨φ, .value (.tuple #[]), _, ?_, .value (.tup .nil), s1, s2⟩
            rw [call_builtin hop hc, args_eq e1]
            simp [builtin, Builtin.delete_, e0, run_underlying hdd, MapKept.run_getObj_map g1, hck, q1, MapKept.run_setObj_map _ g1]
    · rw [bif_false (bool_false hb)] at ha'; cases ha'

theorem findBorn_rel {b : Nat} : ∀ (es : List (AVal × AVal × Nat)) (l : List MapEntry) (i j : Nat) (k : AVal), All2 (ERelB esz φ) es l → findBorn b es i = some (j, k) →
    i ≤ j ∧ l.findIdx? (fun e => (e.born : Int) == (b : Int)) = some (j - i) ∧ ∃ v, es[j - i]? = some (k, v, b)
  | _, _, i, j, k, .nil, h => by simp [findBorn] at h
  | _, _, i, j, k, .cons (a := x) (b := y) (l := es) (m := l) hxy t, h => by
    obtain ⟨kx, vx, bx⟩ := x
    have hb : y.born = bx := hxy.born
    unfold findBorn at h
    by_cases hq : Nat.beq bx b = true
    · rw [bif_true hq] at h; cases h
      rw [beqN] at hq
      subst hq
      exact ⟨Nat.le_refl _, by simp [List.findIdx?_cons, hb], vx, by simp⟩
    · rw [bif_false (bool_false hq)] at h
      rw [beqN] at hq
      obtain ⟨h1, h2, v, h3⟩ := findBorn_rel es l (i + 1) j k t h
      refine ⟨by omega, ?_, v, ?_⟩
      · have : ((y.born : Int) == (b : Int)) = false := by rw [hb]; simp; omega
        rw [List.findIdx?_cons, this, h2]
        simp
        omega
      · rw [show j - i = (j - (i + 1)) + 1 by omega]; simpa using h3

theorem eff_mst {vs : List AVal} {v : AVal} {f : AHeap → Option (AVal × AHeap)} (hok : okK P o.op .mst = true) (hr : VRels esz φ vs ((argsOf o.op).map ρ)) (ha : actK .mst vs = .eff f)
    (hf : f H = some (v, H')) (S : Sim esz φ G H w.heap) : EffRes esz G P ρ o N φ H w v H' := by
  have ha' : aMst vs = .eff f := ha
  cases hop : o.op <;> rw [hop] at hok hr <;> first | (simp [okK] at hok; done) | skip
  rename_i t om os ox
  unfold aMst at ha'
  split at ha' <;> cases ha'
  rename_i i kd b val
  obtain ⟨u1, u2, u3, e1, h1, h2, h3⟩ := hr.inv3
  simp only [argsOf, List.map_cons, List.map_nil, List.cons.injEq, and_true] at e1
  obtain ⟨rfl, rfl, rfl⟩ := e1
  unfold eMst at hf
  split at hf <;> first | (cases hf; done) | skip
  rename_i es clock ho
  cases hx : ρ om <;> rw [hx] at h1 <;> first | (cases h1; done) | skip
  cases hs : ρ os <;> rw [hs] at h2 <;> first | (cases h2; done) | skip
  cases h2
  cases h1 with
  | @map _ p hp =>
  obtain ⟨es', g1, g2⟩ := map_obj S ho hp
  have hlt : p.blk < w.heap.size := S.bnd i p hp
  cases hq : findBorn b es 0 with
  | none => rw [hq] at hf; cases hf
  | some r =>
    obtain ⟨j, key⟩ := r
    rw [hq] at hf; cases hf
    obtain ⟨_, k2, v0, k3⟩ := findBorn_rel es es'.toList 0 j key g2 hq
    rw [Nat.sub_zero] at k2 k3
    have k4 : es'.findIdx? (fun e => (e.born : Int) == (b : Int)) = some j := by rw [← k2, ← List.findIdx?_toArray]
    obtain ⟨s1, s2⟩ := map_put (N := N) (w := w) (es' := es'.modify j fun e => { e with val := ρ ox }) (clock2 := clock) S ho hp hlt (es2 := setE es j (key, val, b))
      (setE_rel g2 j _ _ fun y hy => by
        have := g2.get k3 (by rw [Array.getElem?_toList]; exact hy)
        exact ⟨⟨this.key, h3⟩, this.born⟩)
    refine ⟨φ, .skip, _, ?_, .skip, s1, s2⟩
    simp only [execOp, hop, hx, hs, Instr.entryStore, Sem.run_bind, MapKept.run_getObj_map g1, Result.andThen_ok, asInt, asIntOf, Sem.run_pure]
    simp [k4, MapKept.run_setObj_map _ g1]

theorem eff_nxtS {vs : List AVal} {v : AVal} {f : AHeap → Option (AVal × AHeap)} (hok : okK P o.op .nxtS = true) (hr : VRels esz φ vs ((argsOf o.op).map ρ)) (ha : actK .nxtS vs = .eff f)
    (hf : f H = some (v, H')) (S : Sim esz φ G H w.heap) : EffRes esz G P ρ o N φ H w v H' := by
  have ha' : aNxtS vs = .eff f := ha
  cases hop : o.op <;> rw [hop] at hok hr <;> first | (simp [okK] at hok; done) | skip
  rename_i it isS
  cases isS <;> first | (simp [okK] at hok; done) | skip
  unfold aNxtS at ha'
  split at ha' <;> cases ha'
  rename_i i
  obtain ⟨u1, e1, h1⟩ := hr.inv1
  simp only [argsOf, List.map_cons, List.map_nil, List.cons.injEq, and_true] at e1
  rw [← e1] at h1
  unfold eNxtS at hf
  split at hf <;> first | (cases hf; done) | skip
  rename_i s pos ho
  cases hx : ρ it <;> rw [hx] at h1 <;> first | (cases h1; done) | skip
  cases h1 with
  | @ptr _ _ p hp =>
  obtain ⟨s', g1, g2, g3⟩ := S.obj i _ p ho hp trivial
  have hlt : p.blk < w.heap.size := S.bnd i p hp
  have hget : (getObj p.blk).run P w = .ok (.stringIter s' pos) w := by simp [getObj, Sem.run, g1]
  have hset : ∀ ob, (setObj p.blk ob).run P w = .ok () { w with heap := w.heap.setIfInBounds p.blk ob } := fun ob => by simp [setObj, Sem.run, g1]
  have hls : s.length = s'.size := by rw [← g2, ofBytes_length]
  by_cases hb : Nat.blt pos s.length = true
  · rw [bif_true hb] at hf
    rw [bltN] at hb
    have hback : (⟨(s.map UInt8.ofNat).toArray⟩ : ByteArray) = s' := by
      rw [← g2]
      apply bytes_ext
      simp [ofBytes, Function.comp_def]
    rw [hback] at hf
    rcases hdq : Utf8.decode s' pos with ⟨ch, wd⟩
    rw [hdq] at hf
    cases hf
    refine ⟨φ, .value (.tuple #[.bool true, .int .i64 (pos : Int), .int .i32 ch]), { w with heap := w.heap.setIfInBounds p.blk (.stringIter s' (pos + wd)) }, ?_,
      .value (.tup (.cons (.bool _) (.cons (.int _ _) (.cons (.int _ _) .nil)))), S.setObj ho hp rfl rfl ⟨s', by rw [Array.getElem?_setIfInBounds]; simp [hlt], g2, g3⟩, Step.setObj ho hp rfl rfl rfl rfl rfl rfl⟩
    have hb' : pos < s'.size := by omega
    simp [execOp, hop, hx, Instr.next, g3, hget, hb', hset, goInt, hdq]
  · rw [bif_false (bool_false hb)] at hf
    rw [bltN] at hb
    cases hf
    refine ⟨φ, .value (.tuple #[.bool false]), w, ?_, .value (.tup (.cons (.bool _) .nil)), S, Step.refl N φ H w⟩
    have hb' : ¬ pos < s'.size := by omega
    simp [execOp, hop, hx, Instr.next, g3, hget, hb']
end
end Go.Am

namespace Go.Am
open Go

section
variable {esz : TypeId → Nat} {φ : Phi} {P : Program} {w : World} {ρ : Operand → Value} {o : Oper} {G : Nat → Prop} {H H' : AHeap} {N : Nat}

theorem byteCells_take (l : List Nat) (n : Nat) : byteCells (l.take n) = (byteCells l).take n := by
  induction l generalizing n with
  | nil => simp [byteCells]
  | cons b l ih => cases n with
    | zero => simp [byteCells]
    | succ n => simp [byteCells, ih]

theorem first_cells {size n m : Nat} {v : AVal} {u : Value} {cs : List AVal} (S : Sim esz φ G H w.heap) (h : VRel esz φ v u) (hl : alen v = some m) (hn : n ≤ m) (he : elemsOf H size n v = some cs) :
    ∃ us : List Value, (Builtin.firstCells size n u).run P w = .ok us.toArray w ∧ VRels esz φ cs us := by
  unfold alen at hl
  split at hl <;> cases hl
  · cases h with
    | str s =>
    have he : (bif Nat.beq size 1 then some (byteCells ((ofBytes s).take n)) else none) = some cs := he
    cases hs1 : Nat.beq size 1 <;> rw [hs1] at he <;> cases he
    refine ⟨((s.extract 0 n).data.map fun b => Value.int .u8 b.toNat).toList, by simp only [Builtin.firstCells, Sem.run_pure, Array.toArray_toList], ?_⟩
    have := byteCells_rel (esz := esz) (φ := φ) (s.extract 0 n)
    have e : ofBytes (s.extract 0 n) = (ofBytes s).take n := by
      have hn' : n ≤ s.size := by rw [ofBytes_length] at hn; exact hn
      rw [← slS_bytes s 0 n hn']; simp
    rw [e] at this
    exact this
  · cases h
    have he : some [] = some cs := he
    cases he
    exact ⟨[], by simp [Builtin.firstCells], .nil⟩
  · rename_i i off lo ez
    have he : (bif Nat.beq (Nat.mul n size) 0 then some [] else H.cellsAt i off (Nat.mul n size)) = some cs := he
    by_cases hb : Nat.beq (Nat.mul n size) 0 = true
    · rw [bif_true hb] at he; cases he
      rw [beqN] at hb
      have hb : n * size = 0 := hb
      cases h <;> exact ⟨[], by simp [Builtin.firstCells, hb, loadCells, loadCellsFrom], .nil⟩
    · rw [bif_false (bool_false hb)] at he
      rw [beqN] at hb
      have hb : n * size ≠ 0 := hb
      have he2 : H.cellsAt i off (n * size) = some cs := he
      clear he
      cases h with
      | slx _ _ _ hp => exact S.loadCells (P := P) he2 hp
      | sli _ _ _ _ hp => exact S.loadCells (P := P) he2 hp
      | sle => exfalso; have : n = 0 := by omega
               subst this; simp at hb

theorem lenOf_run {v : AVal} {u : Value} {m : Nat} (h : VRel esz φ v u) (hl : alen v = some m) : (Builtin.lenOf u).run P w = .ok m w := by
  unfold alen at hl
  split at hl <;> cases hl
  · cases h; simp [Builtin.lenOf, ofBytes_length]
  · cases h; simp [Builtin.lenOf]
  · cases h <;> simp [Builtin.lenOf]

theorem elems_length {size n m : Nat} {v : AVal} {cs : List AVal} (hl : alen v = some m) (hn : n ≤ m) (he : elemsOf H size n v = some cs) : cs.length = n * size := by
  unfold alen at hl
  split at hl <;> cases hl
  · rename_i s
    have he : (bif Nat.beq size 1 then some (byteCells (s.take n)) else none) = some cs := he
    cases hs1 : Nat.beq size 1 <;> rw [hs1] at he <;> cases he
    rw [beqN] at hs1
    rw [byteCells_length, List.length_take, hs1]; omega
  · have he : some [] = some cs := he
    cases he
    have : n = 0 := by omega
    subst this; simp
  · rename_i i off lo ez
    have he : (bif Nat.beq (Nat.mul n size) 0 then some [] else H.cellsAt i off (Nat.mul n size)) = some cs := he
    by_cases hb : Nat.beq (Nat.mul n size) 0 = true
    · rw [bif_true hb] at he; cases he
      rw [beqN] at hb
      have hb : n * size = 0 := hb
      rw [hb]; rfl
    · rw [bif_false (bool_false hb)] at he
      exact cellsAt_length he

theorem eff_copy {s : Nat} {vs : List AVal} {v : AVal} {f : AHeap → Option (AVal × AHeap)} (hok : okK P o.op (.copy s) = true) (hr : VRels esz φ vs ((argsOf o.op).map ρ)) (ha : actK (.copy s) vs = .eff f)
    (hf : f H = some (v, H')) (S : Sim esz φ G H w.heap) : EffRes esz G P ρ o N φ H w v H' := by
  have ha' : aCopy s vs = .eff f := ha
  cases hop : o.op <;> rw [hop] at hok hr <;> first | (simp [okK] at hok; done) | skip
  rename_i c
  cases hc : c.callee <;> simp only [okK, hc] at hok <;> first | (cases hok; done) | skip
  rename_i b
  cases b <;> simp only [Bool.false_eq_true] at hok
  simp only [Bool.and_eq_true] at hok
  obtain ⟨hd, h0⟩ := hok
  rw [args_builtin hc] at hr
  have e0 := arg0 h0
  generalize hT : c.argTypes.getD 0 0 = T at *
  cases hdd : P.underlying T with
  | none => simp [hdd] at hd
  | some d =>
    cases d <;> first | (simp [hdd] at hd; done) | skip
    rename_i el
    simp only [hdd] at hd
    obtain ⟨_, _, _, _, hsz⟩ := sizeIs_some hd
    unfold aCopy at ha'
    split at ha' <;> cases ha'
    rename_i dv sv
    obtain ⟨u1, u2, e1, h1, h2⟩ := hr.inv2
    unfold eCopy at hf
    cases hls : alen sv with
    | none => rw [hls] at hf; cases hf
    | some ls =>
      cases hld : alen dv with
      | none => rw [hls, hld] at hf; cases hf
      | some ld =>
        rw [hls, hld] at hf
        simp only at hf
        have hmin : (bif Nat.ble ls ld then ls else ld) = Nat.min ls ld := by
          by_cases hq : Nat.ble ls ld = true
          · rw [bif_true hq]; rw [bleN] at hq; exact (Nat.min_eq_left hq).symm
          · rw [bif_false (bool_false hq)]; rw [bleN] at hq; exact (Nat.min_eq_right (by omega)).symm
        rw [hmin] at hf
        cases he : elemsOf H s (Nat.min ls ld) sv with
        | none => rw [he] at hf; cases hf
        | some cs =>
          rw [he] at hf
          simp only at hf
          obtain ⟨us, f1, f2⟩ := first_cells (P := P) S h2 hls (Nat.min_le_left ls ld) he
          have hlo := lenOf_run (P := P) (w := w) h2 hls
          have fin : ∀ (base : Option Addr) (cap : Nat) (w' : World), u1 = .slice base ld cap → (match base with | some a => storeCells a us | none => pure ()).run P w = .ok () w' →
              (execOp ρ o).run P w = .ok (.value (.int .i64 (Nat.min ls ld : Nat))) w' := by
            intro base cap w' hu hst
            rw [call_builtin hop hc, args_eq e1, hu]
            cases base with
            | none =>
              cases hst
              simp [builtin, Builtin.copy_, e0, run_underlying hdd, hlo, hsz, f1, goInt]
            | some a =>
              simp [builtin, Builtin.copy_, e0, run_underlying hdd, hlo, hsz, f1, goInt, hst]
          split at hf <;> first | (cases hf; done) | skip
          · cases hf
            cases h1
            cases hld
            refine ⟨φ, .value (.int .i64 0), w, ?_, .value (.int _ _), S, Step.refl N φ H w⟩
            have := fin none 0 w rfl (by simp)
            simpa using this
          · rename_i i off n lo ez
            obtain rfl : n = ld := by simpa [alen] using hld
            cases hst : H.store i off cs with
            | none => rw [hst] at hf; cases hf
            | some H1 =>
              rw [hst] at hf; cases hf
              have go : ∀ (p : PI) (cap : Nat), φ i = some p → u1 = .slice (some ⟨p.blk, p.base + off, none⟩) n cap → EffRes esz G P ρ o N φ H w (.int .i64 (Int.ofNat (Nat.min ls n))) H' := by
                intro p cap hp hu
                obtain ⟨w', r1, r2, r3⟩ := S.store (P := P) (N := N) hst hp f2
                exact ⟨φ, .value (.int .i64 (Nat.min ls n : Nat)), w', fin (some _) cap w' hu r1, .value (.int _ _), r2, r3⟩
              cases h1 with
              | slx _ _ _ hp => exact go _ _ hp rfl
              | sli _ _ _ _ hp => exact go _ _ hp rfl
              | sle _ hp h0' a =>
                have hz : Nat.min ls 0 = 0 := Nat.min_zero ls
                rw [hz] at he
                have hcs : cs = [] := by
                  have he' := he
                  unfold elemsOf at he'
                  split at he' <;> first | (cases he'; done) | skip
                  · rename_i st
                    cases hs1 : Nat.beq s 1 <;> rw [hs1] at he' <;> cases he'
                    simp [byteCells]
                  · cases he'; rfl
                  · simp at he'; exact he'
                subst hcs
                cases f2
                have hH : H' = H := by simpa [AHeap.store] using hst.symm
                subst hH
                refine ⟨φ, .value (.int .i64 (Nat.min ls 0 : Nat)), w, fin (some a) 0 w rfl (by simp [storeCells]), .value (.int _ _), S, Step.refl N φ _ w⟩
end
end Go.Am
