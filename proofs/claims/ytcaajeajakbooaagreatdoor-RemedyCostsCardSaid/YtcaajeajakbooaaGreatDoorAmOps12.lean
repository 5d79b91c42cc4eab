/-
  Single operations of the abstract machine are those of the model, part 12.
-/
import Derived.Test.YtcaajeajakbooaaGreatDoorAmOps11
set_option linter.unusedVariables false
set_option linter.unusedSimpArgs false
namespace Go.Am
open Go

section
variable {esz : TypeId → Nat} {φ : Phi} {P : Program} {w : World} {ρ : Operand → Value} {o : Oper} {G : Nat → Prop} {H : AHeap}

theorem okConv {c : ConvK} (hok : okK P o.op (.conv c) = true) : ∃ s d x sd dd, o.op = .convert s d x ∧ P.underlying s = some sd ∧ P.underlying d = some dd := by
  cases hop : o.op <;> rw [hop] at hok <;> first | (simp [okK] at hok; done) | skip
  rename_i s d x
  have hok' : okK P o.op (.conv c) = true := by rw [hop]; exact hok
  obtain ⟨sd, dd, h1, h2⟩ := conv_desc hop hok'
  exact ⟨s, d, x, sd, dd, rfl, h1, h2⟩

theorem shape_cells {b : Nat} {c : Array Value} {e : TypeId} {fz : Nat × Nat} (h : w.heap[b]? = some (.cells c e fz)) : w.shape? b = some (e, c.size) := by
  simp [World.shape?, h]

theorem run_seenAt {b off : Nat} {c : Array Value} {e : TypeId} {fz : Nat × Nat} (h : w.heap[b]? = some (.cells c e fz)) : (Conv.seenAt ⟨b, off, none⟩).run P w = .ok ⟨b, off, none⟩ w := by
  simp [Conv.seenAt, viewAt, shape_cells h]

theorem lies_one {e : TypeId} {s off cells : Nat} (hs : P.cellsOf e = s) (h0 : s ≠ 0) (hm : off % s = 0) (hb : off + s ≤ cells) : liesAt P P.depth e (cells / P.cellsOf e) off e 1 = true := by
  have hd : P.depth = (2 * (P.types.size + Made.depth) + 1) + 1 := rfl
  rw [hd]
  simp only [liesAt, Bool.or_eq_true]
  left
  rw [hd]
  have hi : off / s + 1 ≤ cells / s := by
    have : off = s * (off / s) := by have := Nat.div_add_mod off s; omega
    rw [Nat.le_div_iff_mul_le (by omega), Nat.add_mul, Nat.one_mul]
    rw [Nat.mul_comm] at this
    omega
  simp [rowAt, hs, h0, hm, hi, sameLayout]

theorem rd_conv {c : ConvK} {vs : List AVal} {v : AVal} {f : AHeap → Option AVal} (hesz : ∀ t, esz t = P.cellsOf t) (hok : okK P o.op (.conv c) = true) (hr : VRels esz φ vs ((argsOf o.op).map ρ)) (ha : actK (.conv c) vs = .rd f)
    (hf : f H = some v) (S : Sim esz φ G H w.heap) : RdRes esz φ P ρ o w v := by
  obtain ⟨s, d, x, sd, dd, hop, hs, hd⟩ := okConv hok
  rw [hop] at hok hr
  simp only [okK, hs, hd] at hok
  cases c with
  | int k =>
    have ha' : cInt k vs = .rd f := ha
    unfold cInt at ha'; split at ha' <;> cases ha'
  | same =>
    have ha' : cSame vs = .rd f := ha
    unfold cSame at ha'; split at ha' <;> cases ha'
  | bytes e =>
    have ha' : cBytes e vs = .rd f := ha
    unfold cBytes at ha'; split at ha' <;> cases ha'
  | ptrUns n =>
    cases sd <;> first | (simp at hok; done) | skip
    cases dd <;> first | (simp at hok; done) | skip
    rename_i t
    obtain ⟨_, _, _, _, hsz⟩ := sizeIs_some hok
    have ha' : cPtrUns n vs = .rd f := ha
    unfold cPtrUns at ha'
    split at ha' <;> first | (cases ha'; done) | skip
    by_cases hb : Nat.beq n 0 = true
    · rw [bif_true hb] at ha'; cases ha'
    · rw [bif_false (bool_false hb)] at ha'; cases ha'
      rw [beqN] at hb
      rename_i i off
      unfold rPtrUns at hf
      split at hf <;> first | (cases hf; done) | skip
      rename_i cs e g hl
      by_cases hlt : Nat.blt off cs.length = true
      · rw [bif_true hlt] at hf; cases hf
        rw [bltN] at hlt
        obtain ⟨u, e1, h⟩ := hr.inv1
        simp only [argsOf, List.map_cons, List.map_nil, List.cons.injEq, and_true] at e1
        rw [← e1] at h
        cases hx : ρ x <;> rw [hx] at h <;> first | (cases h; done) | skip
        cases h with
        | @ptr _ _ p hp =>
        obtain ⟨c, fz, h1, h2, h3, h4, h5, h6⟩ := S.cells hl hp
        refine ⟨.pointer (some ⟨p.blk, p.base + off, none⟩), ?_, .ptr _ hp⟩
        have hno : ¬ (c.size ≤ p.base + off) := by omega
        simp [execOp, hop, hx, convert, run_underlying hs, run_underlying hd, Conv.unsafePointer, run_seenAt h1, cellsIn, shape_cells h1, hsz, hb, hno]
      · rw [bif_false (bool_false hlt)] at hf; cases hf
  | unsPtr u n =>
    cases sd <;> first | (simp at hok; done) | skip
    cases dd <;> first | (simp at hok; done) | skip
    rename_i t
    simp only [Bool.and_eq_true, beqN] at hok
    obtain ⟨rfl, hok⟩ := hok
    obtain ⟨_, _, _, hcs, hsz⟩ := sizeIs_some hok
    have ha' : cUnsPtr u n vs = .rd f := ha
    unfold cUnsPtr at ha'
    split at ha' <;> first | (cases ha'; done) | skip
    by_cases hb : Nat.beq n 0 = true
    · rw [bif_true hb] at ha'; cases ha'
    · rw [bif_false (bool_false hb)] at ha'; cases ha'
      rw [beqN] at hb
      rename_i i off
      unfold rUnsPtr at hf
      split at hf <;> first | (cases hf; done) | skip
      rename_i cs e g hl
      by_cases hlt : (Nat.beq e u && Nat.beq (Nat.mod off n) 0 && Nat.ble (Nat.add off n) cs.length) = true
      · rw [bif_true hlt] at hf; cases hf
        simp only [Bool.and_eq_true, beqN, bleN] at hlt
        obtain ⟨⟨rfl, hm⟩, hle⟩ := hlt
        have hm : off % n = 0 := hm
        have hle : off + n ≤ cs.length := hle
        obtain ⟨u', e1, h⟩ := hr.inv1
        simp only [argsOf, List.map_cons, List.map_nil, List.cons.injEq, and_true] at e1
        rw [← e1] at h
        cases hx : ρ x <;> rw [hx] at h <;> first | (cases h; done) | skip
        cases h with
        | @ptr _ _ p hp =>
        obtain ⟨c, fz, h1, h2, h3, h4, h5, h6⟩ := S.cells hl hp
        obtain ⟨v0, ho, hv0⟩ := live_some hl
        have hbase := S.base i _ _ _ _ p ho hp
        rw [h2, hesz, hcs] at hbase
        have hmod : (p.base + off) % n = 0 := by rw [Nat.add_mod, hbase, hm]; simp
        have hlies := lies_one (P := P) (e := e) (cells := c.size) hcs hb hmod (by omega)
        refine ⟨.pointer (some ⟨p.blk, p.base + off, none⟩), ?_, .ptr _ hp⟩
        simp [execOp, hop, hx, convert, run_underlying hs, run_underlying hd, Conv.unsafePointer, run_seenAt h1, variablesAt, shape_cells h1, hsz, hb, hlies]
      · rw [bif_false (bool_false hlt)] at hf; cases hf
  | strOfBytes =>
    cases sd <;> first | (simp at hok; done) | skip
    cases dd <;> first | (simp at hok; done) | skip
    rename_i el
    cases hel : P.underlying el with
    | none => simp [hel] at hok
    | some de =>
      cases de <;> simp only [hel, Bool.false_eq_true] at hok
      rename_i kd
      have hkd : kd = .u8 := by cases kd <;> simp_all
      subst hkd
      have ha' : cStrOf vs = .rd f := ha
      unfold cStrOf at ha'
      split at ha' <;> first | (cases ha'; done) | skip
      rename_i i off n lo ez
      by_cases hb : Nat.beq n 0 = true
      · rw [bif_true hb] at ha'; cases ha'
      · rw [bif_false (bool_false hb)] at ha'; cases ha'
        rw [beqN] at hb
        unfold rStrOf at hf
        cases hc : H.cellsAt i off n with
        | none => rw [hc] at hf; cases hf
        | some cs =>
          rw [hc] at hf
          simp only at hf
          cases hcb : cellBytes cs with
          | none => rw [hcb] at hf; cases hf
          | some bs =>
            rw [hcb] at hf; cases hf
            obtain ⟨u', e1, h⟩ := hr.inv1
            simp only [argsOf, List.map_cons, List.map_nil, List.cons.injEq, and_true] at e1
            rw [← e1] at h
            have go : ∀ (p : PI) (cap : Nat), φ i = some p → ρ x = .slice (some ⟨p.blk, p.base + off, none⟩) n cap → RdRes esz φ P ρ o w (.str bs) := by
              intro p cap hp hx
              obtain ⟨us, h1, h2⟩ := S.loadCells (P := P) hc hp
              have loop : ∀ (us : List Value) (cs : List AVal) (bs : List Nat) (acc : ByteArray), VRels esz φ cs us → cellBytes cs = some bs →
                  ∃ s : ByteArray, ofBytes s = ofBytes acc ++ bs ∧ (forIn us acc fun (c : Value) (s : ByteArray) => (match c with
                    | .int .u8 n => pure (ForInStep.yield (s.push (UInt8.ofNat n.toNat)))
                    | _ => do
                      (stuck "bytesToString: byte expected" : Sem PUnit)
                      pure (ForInStep.yield s) : Sem (ForInStep ByteArray))).run P w = .ok s w := by
                intro us
                induction us with
                | nil =>
                  intro cs bs acc hv hcb
                  cases hv
                  simp only [cellBytes, Option.some.injEq] at hcb
                  subst hcb
                  exact ⟨acc, by simp, by simp⟩
                | cons u us ih =>
                  intro cs bs acc hv hcb
                  cases hv with
                  | @cons a _ cs _ hv ht =>
                  unfold cellBytes at hcb
                  split at hcb <;> first | (cases hcb; done) | skip
                  · rename_i heq; cases heq
                  · rename_i b l heq
                    cases heq
                    by_cases hlt : Nat.blt b 256 = true
                    · rw [bif_true hlt] at hcb
                      rw [bltN] at hlt
                      cases hl : cellBytes cs with
                      | none => rw [hl] at hcb; cases hcb
                      | some bs' =>
                        rw [hl] at hcb
                        simp only [Option.some.injEq] at hcb
                        subst hcb
                        cases hv
                        obtain ⟨s, e1, e2⟩ := ih cs bs' (acc.push (UInt8.ofNat b)) ht hl
                        refine ⟨s, ?_, ?_⟩
                        · rw [e1]
                          have : ofBytes (acc.push (UInt8.ofNat b)) = ofBytes acc ++ [b] := by
                            simp [ofBytes, ByteArray.push, Nat.mod_eq_of_lt hlt]
                          rw [this]; simp
                        · simp only [List.forIn_cons, Sem.run_bind, Sem.run_pure, Result.andThen_ok]
                          exact e2
                    · rw [bif_false (bool_false hlt)] at hcb; cases hcb
              obtain ⟨s, s1, s2⟩ := loop us cs bs .empty h2 hcb
              have e0 : ofBytes s = bs := by simpa [ofBytes] using s1
              refine ⟨.string s, ?_, ?_⟩
              · simp only [execOp, hop, hx, convert, Sem.run_bind, run_underlying hs, run_underlying hd, Result.andThen_ok, run_underlying hel, Conv.bytesToString, h1]
                rw [← Array.forIn_toList]
                erw [s2]
                simp only [Result.andThen_ok, Sem.run_pure]
              · rw [← e0]; exact .str s
            cases hx : ρ x <;> rw [hx] at h <;> first | (cases h; done) | skip
            cases h with
            | slx _ _ _ hp => exact go _ _ hp hx
            | sli _ _ _ _ hp _ _ _ _ => exact go _ _ hp hx
            | sle => exact absurd rfl hb
end
end Go.Am
