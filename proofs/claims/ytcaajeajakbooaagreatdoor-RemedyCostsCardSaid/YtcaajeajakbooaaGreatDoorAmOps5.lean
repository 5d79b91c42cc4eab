/-
  Single operations of the abstract machine are those of the model, part 5.
-/
import Derived.Test.YtcaajeajakbooaaGreatDoorAmOps4
set_option linter.unusedVariables false
set_option linter.unusedSimpArgs false
namespace Go.Am
open Go

section
variable {esz : TypeId → Nat} {φ : Phi} {P : Program} {w : World} {ρ : Operand → Value} {o : Oper}

theorem bnds_kinds {lo hi mx : Bool} {as : List AVal} {l h m : Option Nat} {lx hx mxx : Option Operand} (hb : bnds lo hi mx as = some (l, h, m)) (hr : VRels esz φ as ((lx.toList ++ (hx.toList ++ mxx.toList)).map ρ))
    (e1 : lo = optB lx) (e2 : hi = optB hx) (e3 : mx = optB mxx) :
    ∃ k1 k2 k3, lx.map ρ = (l.map fun n : Nat => Value.int k1 n) ∧ hx.map ρ = (h.map fun n : Nat => Value.int k2 n) ∧ mxx.map ρ = (m.map fun n : Nat => Value.int k3 n) := by
  obtain ⟨a, b, c⟩ := bnds_run hb hr e1 e2 e3 rfl
  exact ⟨_, _, _, a, b, c⟩

theorem bnds_mx {lo hi mx : Bool} {as : List AVal} {l h m : Option Nat} (hb : bnds lo hi mx as = some (l, h, m)) : (m.isSome = true → h.isSome = true) ∧ (mx = m.isSome) := by
  unfold bnds at hb
  split at hb <;> first | (cases hb; done) | skip
  all_goals (cases hb; exact ⟨by simp, rfl⟩)

theorem slS_bytes (s : ByteArray) (l h : Nat) (h2 : h ≤ s.size) : ((ofBytes s).take h).drop l = ofBytes (s.extract l h) := by
  unfold ofBytes
  rw [← List.map_take, ← List.map_drop]
  congr 1
  have : (s.extract l h).data.toList = (s.data.toList.take h).drop l := by
    rw [ByteArray.data_extract, Array.toList_extract, List.extract_eq_take_drop]
    rw [List.drop_take]
  rw [this]

theorem pure_slS {lo hi : Bool} {vs : List AVal} {v : AVal} (hok : okK P o.op (.slS lo hi) = true) (hr : VRels esz φ vs ((argsOf o.op).map ρ)) (ha : actK (.slS lo hi) vs = .val v) : PureRes esz φ P ρ o v := by
  have ha' : aSlS lo hi vs = .val v := ha
  cases hop : o.op <;> rw [hop] at hok hr <;> first | (simp [okK] at hok; done) | skip
  rename_i t x l h m
  cases hd : P.underlying t with
  | none => simp [okK, hd] at hok
  | some d =>
    cases d <;> first | (simp [okK, hd] at hok; done) | skip
    simp only [okK, hd, Bool.and_eq_true, eqBool_iff] at hok
    obtain ⟨⟨e1, e2⟩, e3⟩ := hok
    have hm : m = none := by cases m <;> simp_all [optB]
    subst hm
    unfold aSlS at ha'
    split at ha' <;> first | (cases ha'; done) | skip
    rename_i s r
    simp only [argsOf, List.map_cons] at hr
    cases hr with
    | cons hx hr =>
    cases hb : bnds lo hi false r with
    | none => rw [hb] at ha'; cases ha'
    | some q =>
      obtain ⟨l', h', m'⟩ := q
      rw [hb] at ha'
      simp only at ha'
      obtain ⟨k1, k2, k3, a1, a2, a3⟩ := bnds_kinds hb (mxx := none) (by simpa using hr) e1 e2 rfl
      have hmm : m' = none := by
        cases m' with
        | none => rfl
        | some _ => have := (bnds_mx hb).2; simp at this
      subst hmm
      cases hv : ρ x <;> rw [hv] at hx <;> first | (cases hx; done) | skip
      rename_i s'
      cases hx
      by_cases hc : (Nat.ble (dflt 0 l') (dflt (ofBytes s').length h') && Nat.ble (dflt (ofBytes s').length h') (ofBytes s').length) = true
      · rw [bif_true hc] at ha'; cases ha'
        simp only [Bool.and_eq_true, bleN, ofBytes_length] at hc
        intro w
        refine ⟨.string (s'.extract (dflt 0 l') (dflt s'.size h')), ?_, ?_⟩
        · have hr := run_bounds (P := P) (isSlice := false) (len := s'.size) (cap := s'.size) (l := l') (h := h') (m := none) (k1 := k1) (k2 := k2) (k3 := k3) (by simp [dflt]) hc.1 (by simpa [dflt] using hc.2) (by simp) w
          simp only [Option.map_none] at hr
          simp only [execOp, hop, hv, Instr.sliceAt, a1, a2, Option.map_none]
          simp [run_underlying hd, Instr.slice, hr]
        · rw [ofBytes_length, slS_bytes _ _ _ hc.2]; exact .str _
      · rw [bif_false (bool_false hc)] at ha'; cases ha'

theorem pure_slE {s : Nat} {lo hi mx : Bool} {vs : List AVal} {v : AVal} (hok : okK P o.op (.slE s lo hi mx) = true) (hr : VRels esz φ vs ((argsOf o.op).map ρ))
    (ha : actK (.slE s lo hi mx) vs = .val v) : PureRes esz φ P ρ o v := by
  have ha' : aSlE s lo hi mx vs = .val v := ha
  cases hop : o.op <;> rw [hop] at hok hr <;> first | (simp [okK] at hok; done) | skip
  rename_i t x l h m
  cases hd : P.underlying t with
  | none => simp [okK, hd] at hok
  | some d =>
    cases d <;> first | (simp [okK, hd] at hok; done) | skip
    rename_i el
    simp only [okK, hd, Bool.and_eq_true, eqBool_iff] at hok
    obtain ⟨⟨⟨hs, e1⟩, e2⟩, e3⟩ := hok
    obtain ⟨inf, hi1, hi2, hi3, hi4⟩ := sizeIs_some hs
    unfold aSlE at ha'
    split at ha' <;> first | (cases ha'; done) | skip
    · rename_i r
      simp only [argsOf, List.map_cons] at hr
      cases hr with
      | cons hx hr =>
      cases hb : bnds lo hi mx r with
      | none => rw [hb] at ha'; cases ha'
      | some q =>
        obtain ⟨l', h', m'⟩ := q
        rw [hb] at ha'
        simp only at ha'
        obtain ⟨k1, k2, k3, a1, a2, a3⟩ := bnds_kinds hb hr e1 e2 e3
        cases hv : ρ x <;> rw [hv] at hx <;> first | (cases hx; done) | skip
        cases hx
        by_cases hc : (Nat.beq (dflt 0 l') 0 && Nat.beq (dflt 0 h') 0 && Nat.beq (dflt 0 m') 0) = true
        · rw [bif_true hc] at ha'; cases ha'
          simp only [Bool.and_eq_true, beqN] at hc
          obtain ⟨⟨c1, c2⟩, c3⟩ := hc
          intro w
          refine ⟨.slice none 0 0, ?_, .nilsl⟩
          have hr := run_bounds (P := P) (isSlice := true) (len := 0) (cap := 0) (l := l') (h := h') (m := m') (k1 := k1) (k2 := k2) (k3 := k3) (by omega) (by omega) (by omega) (bnds_mx hb).1 w
          rw [c1, c2, c3] at hr
          simp only [execOp, hop, hv, Instr.sliceAt, a1, a2, a3]
          simp [run_underlying hd, Instr.slice, hr, hi4]
        · rw [bif_false (bool_false hc)] at ha'; cases ha'
    · rename_i i o' len cap ez r
      simp only [argsOf, List.map_cons] at hr
      cases hr with
      | cons hx hr =>
      cases hb : bnds lo hi mx r with
      | none => rw [hb] at ha'; cases ha'
      | some q =>
        obtain ⟨l', h', m'⟩ := q
        rw [hb] at ha'
        simp only at ha'
        obtain ⟨k1, k2, k3, a1, a2, a3⟩ := bnds_kinds hb hr e1 e2 e3
        obtain ⟨b1, b2⟩ := bnds_mx hb
        by_cases hc : ((Nat.beq ez 0 || Nat.beq ez s) && (Nat.ble (dflt cap m') cap && (Nat.ble (dflt 0 l') (dflt len h') && Nat.ble (dflt len h') (dflt cap m')))) = true
        · rw [bif_true hc] at ha'; cases ha'
          simp only [Bool.and_eq_true, Bool.or_eq_true, bleN, beqN] at hc
          obtain ⟨c0, c1, c2, c3⟩ := hc
          cases hv : ρ x <;> rw [hv] at hx <;> first | (cases hx; done) | skip
          rename_i ad ln cap'
          have run : ∀ (a : Addr) (cap' : Nat), ρ x = .slice (some a) len cap' → dflt cap' m' ≤ cap' → dflt len h' ≤ dflt cap' m' → ∀ w, (execOp ρ o).run P w = .ok (.value (.slice (some (if dflt cap' m' = dflt 0 l' then a else a.add (dflt 0 l' * s))) (dflt len h' - dflt 0 l') (dflt cap' m' - dflt 0 l'))) w := by
            intro a cap' hv' d1 d2 w
            have hr := run_bounds (P := P) (isSlice := true) (len := len) (cap := cap') (l := l') (h := h') (m := m') (k1 := k1) (k2 := k2) (k3 := k3) d1 c2 d2 b1 w
            simp only [execOp, hop, hv', Instr.sliceAt, a1, a2, a3]
            simp only [Sem.run_bind, run_underlying hd, Instr.slice]
            by_cases hif : dflt cap' m' = dflt 0 l'
            · simp [run_underlying hd, hr, hi4, hif]
            · simp [run_underlying hd, hr, hi4, hif]
          cases hx with
          | slx _ _ _ hp =>
            rename_i p
            intro w
            refine ⟨_, run _ _ hv c1 c3 w, ?_⟩
            have hez : (bif mx && !(Nat.beq cap 0) then 0 else 0) = 0 := by cases (mx && !(Nat.beq cap 0)) <;> rfl
            rw [hez]
            unfold slRes
            by_cases hml : dflt cap m' = dflt 0 l'
            · simp [hml]; exact .slx _ _ _ hp
            · have : (Nat.beq (dflt cap m') (dflt 0 l')) = false := bool_false (by rw [beqN]; exact hml)
              simp only [this, hml, if_false, Bool.false_and, cond_false, addr_add]
              rw [Nat.add_assoc]
              exact .slx _ _ _ hp
          | sli _ _ _ _ hp h0 hz hcc hsz =>
            rename_i p
            have hes : ez = s := by omega
            intro w
            cases hm : m' with
            | some mm =>
              subst hm
              have c1 : mm ≤ cap := c1
              have c3 : dflt len h' ≤ mm := c3
              have hmx : mx = true := by rw [b2]; rfl
              refine ⟨_, run _ _ hv (by show mm ≤ cap'; omega) c3 w, ?_⟩
              unfold slRes
              subst hmx
              show VRel esz φ (bif Nat.beq mm (dflt 0 l') && Nat.beq (bif true && !(Nat.beq cap 0) then 0 else ez) 0 then _ else .sl i (o' + dflt 0 l' * s) (dflt len h' - dflt 0 l') (mm - dflt 0 l') (bif true && !(Nat.beq cap 0) then 0 else ez)) (.slice (some (if mm = dflt 0 l' then _ else _)) (dflt len h' - dflt 0 l') (mm - dflt 0 l'))
              simp only [Bool.true_and]
              by_cases hz0 : cap = 0
              · have h1 : mm = 0 := by omega
                have h2 : dflt len h' = 0 := by omega
                have h3 : dflt 0 l' = 0 := by omega
                have hb0 : Nat.beq ez 0 = false := bool_false (by rw [beqN]; exact h0)
                subst hz0
                simp [h1, h2, h3, hb0]
                exact .sle _ hp h0 _
              · have hbz : (!Nat.beq cap 0) = true := by simp [bool_false (b := Nat.beq cap 0) (by rw [beqN]; exact hz0)]
                rw [hbz]
                by_cases hml : mm = dflt 0 l'
                · simp [hml]
                  have e : dflt cap (some (dflt 0 l')) - dflt 0 l' = 0 := Nat.sub_self _
                  rw [e]
                  exact .slx _ _ _ hp
                · have : (Nat.beq mm (dflt 0 l')) = false := bool_false (by rw [beqN]; exact hml)
                  simp only [this, hml, if_false, Bool.false_and, cond_false, cond_true, addr_add]
                  rw [Nat.add_assoc]
                  exact .slx _ _ _ hp
            | none =>
              subst hm
              have c3 : dflt len h' ≤ cap := c3
              have hmx : mx = false := by rw [b2]; rfl
              have c3' : dflt len h' ≤ cap' := by omega
              refine ⟨_, run _ _ hv (Nat.le_refl _) c3' w, ?_⟩
              unfold slRes
              subst hmx
              have hb0 : Nat.beq ez 0 = false := bool_false (by rw [beqN]; exact h0)
              show VRel esz φ (bif Nat.beq cap (dflt 0 l') && Nat.beq ez 0 then _ else .sl i (o' + dflt 0 l' * s) (dflt len h' - dflt 0 l') (cap - dflt 0 l') ez) (.slice (some (if cap' = dflt 0 l' then _ else _)) (dflt len h' - dflt 0 l') (cap' - dflt 0 l'))
              rw [hb0, Bool.and_false, cond_false]
              have q1 : dflt 0 l' ≤ dflt len h' := c2
              have q2 : dflt len h' ≤ cap := c3
              by_cases hml : cap' = dflt 0 l'
              · have h1 : dflt len h' - dflt 0 l' = 0 := by omega
                have h2 : cap - dflt 0 l' = 0 := by omega
                have h3 : cap' - dflt 0 l' = 0 := by omega
                rw [h1, h2, h3]
                exact .sle _ hp h0 _
              · rw [if_neg hml, addr_add, Nat.add_assoc]
                refine .sli _ _ _ _ hp h0 hz (by omega) ?_
                have : dflt 0 l' ≤ cap' := by omega
                have e : cap' * s = dflt 0 l' * s + (cap' - dflt 0 l') * s := by rw [← Nat.add_mul]; congr 1; omega
                rw [hes] at hsz ⊢
                omega
          | sle _ hp h0 a =>
            intro w
            have hm0 : dflt 0 m' = 0 := by omega
            have hl0 : dflt 0 l' = 0 := by omega
            have hh0 : dflt 0 h' = 0 := by omega
            refine ⟨_, run _ _ hv c1 c3 w, ?_⟩
            have hb0 : Nat.beq ez 0 = false := bool_false (by rw [beqN]; exact h0)
            have hez : (bif mx && !(Nat.beq 0 0) then 0 else ez) = ez := by simp
            rw [hez]
            unfold slRes
            rw [hb0, hm0, hl0, hh0]
            simp
            exact .sle _ hp h0 _
        · rw [bif_false (bool_false hc)] at ha'; cases ha'

theorem pure_slA {n s : Nat} {lo hi : Bool} {vs : List AVal} {v : AVal} (hok : okK P o.op (.slA n s lo hi) = true) (hr : VRels esz φ vs ((argsOf o.op).map ρ)) (ha : actK (.slA n s lo hi) vs = .val v) : PureRes esz φ P ρ o v := by
  have ha' : aSlA n s lo hi vs = .val v := ha
  cases hop : o.op <;> rw [hop] at hok hr <;> first | (simp [okK] at hok; done) | skip
  rename_i t x l h m
  cases hd : P.underlying t with
  | none => simp [okK, hd] at hok
  | some d =>
    cases d <;> first | (simp [okK, hd] at hok; done) | skip
    rename_i n' el
    simp only [okK, hd, Bool.and_eq_true, eqBool_iff, beqN] at hok
    obtain ⟨⟨⟨⟨e0, hs⟩, e1⟩, e2⟩, e3⟩ := hok
    subst e0
    obtain ⟨inf, hi1, hi2, hi3, hi4⟩ := sizeIs_some hs
    have hm : m = none := by cases m <;> simp_all [optB]
    subst hm
    unfold aSlA at ha'
    split at ha' <;> first | (cases ha'; done) | skip
    rename_i i o' r
    simp only [argsOf, List.map_cons] at hr
    cases hr with
    | cons hx hr =>
    cases hb : bnds lo hi false r with
    | none => rw [hb] at ha'; cases ha'
    | some q =>
      obtain ⟨l', h', m'⟩ := q
      rw [hb] at ha'
      simp only at ha'
      obtain ⟨k1, k2, k3, a1, a2, a3⟩ := bnds_kinds hb (mxx := none) (by simpa using hr) e1 e2 rfl
      have hmm : m' = none := by
        cases m' with
        | none => rfl
        | some _ => have := (bnds_mx hb).2; simp at this
      subst hmm
      cases hv : ρ x <;> rw [hv] at hx <;> first | (cases hx; done) | skip
      cases hx with
      | ptr _ hp =>
      rename_i p
      by_cases hc : (Nat.ble (dflt 0 l') (dflt n h') && Nat.ble (dflt n h') n) = true
      · rw [bif_true hc] at ha'; cases ha'
        simp only [Bool.and_eq_true, bleN] at hc
        intro w
        have hr := run_bounds (P := P) (isSlice := false) (len := n) (cap := n) (l := l') (h := h') (m := none) (k1 := k1) (k2 := k2) (k3 := k3) (by simp [dflt]) hc.1 (by simpa [dflt] using hc.2) (by simp) w
        simp only [Option.map_none] at hr a3
        have hr : (Instr.sliceBounds false n n (l'.map fun n : Nat => Value.int k1 n) (h'.map fun n : Nat => Value.int k2 n) none).run P w = .ok (dflt 0 l', dflt n h', n) w := hr
        refine ⟨.slice (some (if n = dflt 0 l' then ⟨p.blk, p.base + o', none⟩ else ⟨p.blk, p.base + o' + dflt 0 l' * s, none⟩)) (dflt n h' - dflt 0 l') (n - dflt 0 l'), ?_, ?_⟩
        · simp only [execOp, hop, hv, Instr.sliceAt, a1, a2, Option.map_none]
          by_cases hif : n = dflt 0 l'
          · simp [run_underlying hd, Instr.sureAddr, hr, hi4, ← hif]
          · simp [run_underlying hd, Instr.sureAddr, hr, hi4, hif, addr_add]
        · unfold slRes
          by_cases hml : n = dflt 0 l'
          · simp [← hml]; exact .slx _ _ _ hp
          · have : (Nat.beq n (dflt 0 l')) = false := bool_false (by rw [beqN]; exact hml)
            simp only [this, hml, if_false, Bool.false_and, cond_false]
            rw [Nat.add_assoc]
            exact .slx _ _ _ hp
      · rw [bif_false (bool_false hc)] at ha'; cases ha'
end
end Go.Am
