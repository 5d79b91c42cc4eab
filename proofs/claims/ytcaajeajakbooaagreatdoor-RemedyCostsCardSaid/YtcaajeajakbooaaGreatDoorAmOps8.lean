/-
  Single operations of the abstract machine are those of the model, part 8.
-/
import Derived.Test.YtcaajeajakbooaaGreatDoorAmOps7
set_option linter.unusedVariables false
set_option linter.unusedSimpArgs false
namespace Go.Am
open Go

section
variable {esz : TypeId → Nat} {φ : Phi} {P : Program} {w : World} {ρ : Operand → Value} {o : Oper}

theorem foldl_setFrom : ∀ (vs : List Value) (k off : Nat) (cs : Array Value), (vs.zipIdx k).foldl (fun cs (x : Value × Nat) => cs.setIfInBounds (off + x.2) x.1) cs = setFrom cs (off + k) vs
  | [], k, off, cs => rfl
  | v :: vs, k, off, cs => by
    rw [List.zipIdx_cons, List.foldl_cons, foldl_setFrom vs (k + 1) off, setFrom]
    rfl

theorem VRels.setFrom {cs : List AVal} {cs' : Array Value} {vs : List AVal} {us : List Value} {off : Nat} (h : VRels esz φ cs cs'.toList) (k : VRels esz φ vs us) (hb : off + vs.length ≤ cs.length) :
    VRels esz φ (setAt cs off vs) (Go.Am.setFrom cs' off us).toList := by
  have hl := h.length
  have hk := k.length
  simp only [Array.length_toList] at hl
  refine VRels.of_get (by rw [setAt_length, hl, Array.length_toList, setFrom_size]) ?_
  intro j v u hv hu
  rw [setAt_get _ _ _ _ hb] at hv
  rw [Array.getElem?_toList, setFrom_get _ _ _ _ (by omega)] at hu
  by_cases hj : off ≤ j ∧ j < off + vs.length
  · rw [if_pos hj] at hv
    rw [if_pos (by omega)] at hu
    obtain ⟨u', e, r⟩ := k.get hv
    rw [e] at hu; cases hu; exact r
  · rw [if_neg hj] at hv
    rw [if_neg (by omega)] at hu
    obtain ⟨u', e, r⟩ := h.get hv
    rw [Array.getElem?_toList, hu] at e; cases e; exact r

theorem fill_rel (place : Nat → Option (Nat × Nat)) : ∀ (parts : List (Nat × Operand)) (ps : List (Nat × Nat)) (vs cs r : List AVal) (cs' : Array Value),
    (List.length parts = List.length ps) → (∀ (j i : Nat) (x : Operand) (off n : Nat), parts[j]? = some (i, x) → ps[j]? = some (off, n) → place i = some (off, n)) →
    VRels esz φ vs (parts.map fun p => ρ p.2) → VRels esz φ cs cs'.toList → afill cs ps vs = some r →
    ∃ r', Instr.fill place cs' (parts.map fun p => (p.1, ρ p.2)) = some r' ∧ VRels esz φ r r'.toList
  | [], [], vs, cs, r, cs', _, _, hv, hc, h => by
    cases hv
    simp only [afill, Option.some.injEq] at h
    subst h
    exact ⟨cs', rfl, hc⟩
  | (i, x) :: parts, (off, n) :: ps, vs, cs, r, cs', hlen, hp, hv, hc, h => by
    cases hv with
    | @cons v _ vs _ hv ht =>
    simp only [afill] at h
    by_cases hb : (Nat.beq (acells v).length n && Nat.ble (Nat.add off n) cs.length) = true
    · rw [bif_true hb] at h
      simp only [Bool.and_eq_true, beqN, bleN] at hb
      obtain ⟨h1, h2⟩ := hb
      have h2 : off + n ≤ cs.length := h2
      have hcl := hv.cells
      have hl := hcl.length
      have hcc := hc.length
      simp only [Array.length_toList] at hl hcc
      have := fill_rel place parts ps vs (setAt cs off (acells v)) r (Go.Am.setFrom cs' off (ρ x).cells.toList) (by simpa using hlen)
        (fun j i' x' off' n' a b => hp (j + 1) i' x' off' n' (by simpa using a) (by simpa using b)) ht (hc.setFrom hcl (by omega)) h
      obtain ⟨r', e, hr⟩ := this
      refine ⟨r', ?_, hr⟩
      rw [List.map_cons, Instr.fill]
      have hpl := hp 0 i x off n (by simp) (by simp)
      simp only [hpl]
      rw [if_neg (by simp; omega)]
      rw [← e]
      congr 1
      have := foldl_setFrom (ρ x).cells.toList 0 off cs'
      rw [← Array.foldl_toList, Array.toList_zipIdx]
      exact this
    · rw [bif_false (bool_false hb)] at h; cases h
  | [], _ :: _, _, _, _, _, hl, _, _, _, _ => by simp at hl
  | _ :: _, [], _, _, _, _, hl, _, _, _, _ => by simp at hl

theorem placesS_ok {fs : Array Field} : ∀ (parts : List (Nat × Operand)) (ps : List (Nat × Nat)), placesS P fs parts ps = true →
    parts.length = ps.length ∧ ∀ (j i : Nat) (x : Operand) (off n : Nat), parts[j]? = some (i, x) → ps[j]? = some (off, n) → ∃ f, fs[i]? = some f ∧ f.offset = off ∧ sizeIs P f.type n = true
  | [], [], _ => ⟨rfl, fun j i x off n h => by simp at h⟩
  | [], _ :: _, h => by simp [placesS] at h
  | _ :: _, [], h => by simp [placesS] at h
  | (i0, x0) :: parts, (off0, n0) :: ps, h => by
    simp only [placesS, Bool.and_eq_true] at h
    obtain ⟨h1, h2⟩ := h
    obtain ⟨a, b⟩ := placesS_ok parts ps h2
    refine ⟨by simp [a], ?_⟩
    intro j i x off n e1 e2
    cases j with
    | zero =>
      simp only [List.getElem?_cons_zero, Option.some.injEq, Prod.mk.injEq] at e1 e2
      obtain ⟨rfl, rfl⟩ := e1
      obtain ⟨rfl, rfl⟩ := e2
      cases hf : fs[i0]? with
      | none => simp [hf] at h1
      | some f =>
        simp only [hf, Bool.and_eq_true, beqN] at h1
        exact ⟨f, rfl, h1.1, h1.2⟩
    | succ j => exact b j i x off n (by simpa using e1) (by simpa using e2)

theorem placesA_ok {size : Nat} : ∀ (parts : List (Nat × Operand)) (ps : List (Nat × Nat)), placesA size parts ps = true →
    parts.length = ps.length ∧ ∀ (j i : Nat) (x : Operand) (off n : Nat), parts[j]? = some (i, x) → ps[j]? = some (off, n) → i * size = off ∧ size = n
  | [], [], _ => ⟨rfl, fun j i x off n h => by simp at h⟩
  | [], _ :: _, h => by simp [placesA] at h
  | _ :: _, [], h => by simp [placesA] at h
  | (i0, x0) :: parts, (off0, n0) :: ps, h => by
    simp only [placesA, Bool.and_eq_true, beqN] at h
    obtain ⟨⟨h0, h1⟩, h2⟩ := h
    obtain ⟨a, b⟩ := placesA_ok parts ps h2
    refine ⟨by simp [a], ?_⟩
    intro j i x off n e1 e2
    cases j with
    | zero =>
      simp only [List.getElem?_cons_zero, Option.some.injEq, Prod.mk.injEq] at e1 e2
      obtain ⟨rfl, rfl⟩ := e1
      obtain ⟨rfl, rfl⟩ := e2
      exact ⟨h0, h1⟩
    | succ j => exact b j i x off n (by simpa using e1) (by simpa using e2)

theorem allSizes_run : ∀ (fs : List Field), allSizes P fs = true → ∀ w, (fs.mapM fun f : Field => do pure (f.offset, ← sizeOf f.type)).run P w = .ok (fs.map fun f => (f.offset, P.cellsOf f.type)) w
  | [], _, w => by simp
  | f :: fs, h, w => by
    simp only [allSizes, Bool.and_eq_true] at h
    cases hi : P.info? f.type with
    | none => simp [hi] at h
    | some i =>
      have ih := allSizes_run fs h.2 w
      simp at ih
      rw [List.mapM_cons]
      simp [run_sizeOf w hi, ih]

theorem pure_build {z : List AVal} {ps : List (Nat × Nat)} {vs : List AVal} {v : AVal} (hok : okK P o.op (.build z ps) = true) (hr : VRels esz φ vs ((argsOf o.op).map ρ)) (ha : actK (.build z ps) vs = .val v) :
    PureRes esz φ P ρ o v := by
  have ha' : aBuild z ps vs = .val v := ha
  cases hop : o.op <;> rw [hop] at hok hr <;> first | (simp [okK] at hok; done) | skip
  rename_i t l
  simp only [okK, Bool.and_eq_true] at hok
  obtain ⟨hz, hd⟩ := hok
  obtain ⟨zv, z1, z2⟩ := zeroIs_some (esz := esz) (φ := φ) hz
  unfold aBuild at ha'
  cases hf : afill z ps vs with
  | none => rw [hf] at ha'; cases ha'
  | some r =>
    rw [hf] at ha'; cases ha'
    intro w
    have hr' : VRels esz φ vs (l.toList.map fun p => ρ p.2) := by simpa [argsOf, List.map_map, Function.comp_def] using hr
    have hpl : (l.map fun (i, x) => (i, ρ x)).toList = l.toList.map fun p => (p.1, ρ p.2) := by simp
    cases hdd : P.underlying t with
    | none => simp [hdd] at hd
    | some d =>
      rw [hdd] at hd
      cases d <;> first | (simp at hd; done) | skip
      · rename_i n el
        cases hi : P.info? el with
        | none => simp [hi] at hd
        | some i =>
          simp only [hi] at hd
          obtain ⟨p1, p2⟩ := placesA_ok _ _ hd
          have hcs : P.cellsOf el = i.size := by simp [Program.cellsOf, hi]
          obtain ⟨r', e, hrr⟩ := fill_rel (ρ := ρ) (fun k => some (k * i.size, i.size)) l.toList ps vs z r zv.cells p1 (fun j k x off n a b => by
            obtain ⟨f1, f2⟩ := p2 j k x off n a b
            subst f1; subst f2; rfl) hr' z2 hf
          refine ⟨.agg r', ?_, .agg hrr⟩
          simp only [execOp, hop, Instr.build, Sem.run_bind, z1, Result.andThen, run_underlying hdd, hpl, run_sizeOf w hi, hcs, e, Sem.run_pure]
      · rename_i fs
        simp only [Bool.and_eq_true] at hd
        obtain ⟨h1, h2⟩ := hd
        obtain ⟨p1, p2⟩ := placesS_ok _ _ h2
        have hm : (fs.mapM fun f : Field => do pure (f.offset, ← sizeOf f.type)).run P w = .ok (fs.map fun f => (f.offset, P.cellsOf f.type)) w := by
          rw [Array.mapM_eq_mapM_toList]
          have ih := allSizes_run fs.toList h1 w
          simp at ih
          simp [ih]
          apply Array.ext'
          simp
        obtain ⟨r', e, hrr⟩ := fill_rel (ρ := ρ) (fun i => (fs.map fun f => (f.offset, P.cellsOf f.type))[i]?) l.toList ps vs z r zv.cells p1 (fun j i x off n a b => by
          obtain ⟨f, f1, f2, f3⟩ := p2 j i x off n a b
          obtain ⟨_, _, _, f4, _⟩ := sizeIs_some f3
          simp [f1, f2, f4]) hr' z2 hf
        refine ⟨.agg r', ?_, .agg hrr⟩
        simp only [execOp, hop, Instr.build, Sem.run_bind, z1, Result.andThen, run_underlying hdd, hm, hpl, e, Sem.run_pure]
end
end Go.Am
