/-
  Single operations of the abstract machine are those of the model, part 3.
-/
import Derived.Test.YtcaajeajakbooaaGreatDoorAmOps2
import Derived.Laws.StructEq
set_option linter.unusedVariables false
set_option linter.unusedSimpArgs false
namespace Go.Am
open Go

section
variable {esz : TypeId → Nat} {φ : Phi} {P : Program} {w : World} {ρ : Operand → Value} {o : Oper}

theorem eqBeqInt (a b : Int) : eqInt a b = (a == b) := by rw [Bool.eq_iff_iff, eqInt_iff]; simp
theorem eqBeqBool (a b : Bool) : eqBool a b = (a == b) := by rw [Bool.eq_iff_iff, eqBool_iff]; simp

theorem aeq_fields {d : Nat} (ih : ∀ e t, eqkIs P d e t = true → ∀ D, d ≤ D → ∀ a b a' b' r, VRel esz φ a a' → VRel esz φ b b' → aeq e a b = some r → (Op.equalIn D t a' b').run P w = .ok r w)
    {D : Nat} (hD : d ≤ D) : ∀ (fs : List Field) (l : EqK), fieldsIs P (eqkIs P d) fs l = true → ∀ (xs ys : List AVal) (xs' ys' : Array Value) (r : Bool),
    VRels esz φ xs xs'.toList → VRels esz φ ys ys'.toList → aeq l (.agg xs) (.agg ys) = some r → (Op.eqFields D xs' ys' fs).run P w = .ok r w
  | [], l, h, xs, ys, xs', ys', r, _, _, hr => by
    cases l <;> simp [fieldsIs] at h
    cases hr
    simp [Op.eqFields]
  | f :: fs, l, h, xs, ys, xs', ys', r, hx, hy, hr => by
    unfold fieldsIs at h
    by_cases hn : f.name = "_"
    · rw [bif_true (by simpa using hn)] at h
      have := aeq_fields ih hD fs l h xs ys xs' ys' r hx hy hr
      simpa [Op.eqFields, hn] using this
    · rw [bif_false (by simpa using hn)] at h
      split at h
      · rename_i off n e rest
        simp only [Bool.and_eq_true, beqN] at h
        obtain ⟨⟨⟨rfl, hp⟩, he⟩, hf⟩ := h
        have hr' : (match part n xs f.offset, part n ys f.offset with
          | some a, some b => (match aeq e a b with | some true => aeq rest (.agg xs) (.agg ys) | r => r)
          | _, _ => none) = some r := hr
        cases ha : part n xs f.offset with
        | none => rw [ha] at hr'; cases hr'
        | some a =>
          cases hb : part n ys f.offset with
          | none => rw [ha, hb] at hr'; cases hr'
          | some b =>
            rw [ha, hb] at hr'
            simp only at hr'
            obtain ⟨a', ra, va⟩ := part_rel hp hx ha
            obtain ⟨b', rb, vb⟩ := part_rel hp hy hb
            simp only [Op.eqFields, hn, ne_eq, not_false_eq_true, if_true, Sem.run_bind, ra, rb, Result.andThen_ok]
            cases hq : aeq e a b with
            | none => rw [hq] at hr'; cases hr'
            | some q =>
              rw [hq] at hr'
              rw [ih e f.type he D hD a b a' b' q va vb hq]
              cases q
              · simp only at hr'; cases hr'
                simp
              · simp only at hr'
                have := aeq_fields ih hD fs rest hf xs ys xs' ys' r hx hy hr'
                simpa using this
      · cases h

theorem aeq_elems {d : Nat} (ih : ∀ e t, eqkIs P d e t = true → ∀ D, d ≤ D → ∀ a b a' b' r, VRel esz φ a a' → VRel esz φ b b' → aeq e a b = some r → (Op.equalIn D t a' b').run P w = .ok r w)
    {D : Nat} (hD : d ≤ D) {el : TypeId} {size : Nat} : ∀ (m i : Nat) (l : EqK), elemsIs P (eqkIs P d) el size m i l = true → ∀ (xs ys : List AVal) (xs' ys' : Array Value) (r : Bool),
    VRels esz φ xs xs'.toList → VRels esz φ ys ys'.toList → aeq l (.agg xs) (.agg ys) = some r → (Op.eqItems D el size xs' ys' (List.range' i m)).run P w = .ok r w
  | 0, i, l, h, xs, ys, xs', ys', r, _, _, hr => by
    cases l <;> simp [elemsIs] at h
    cases hr
    simp [Op.eqItems]
  | m + 1, i, l, h, xs, ys, xs', ys', r, hx, hy, hr => by
    cases l <;> first | (simp [elemsIs] at h; done) | skip
    rename_i off n e rest
    simp only [elemsIs, Bool.and_eq_true, beqN] at h
    obtain ⟨⟨⟨rfl, hp⟩, he⟩, hf⟩ := h
    have hr' : (match part n xs (i * size), part n ys (i * size) with
      | some a, some b => (match aeq e a b with | some true => aeq rest (.agg xs) (.agg ys) | r => r)
      | _, _ => none) = some r := hr
    cases ha : part n xs (i * size) with
    | none => rw [ha] at hr'; cases hr'
    | some a =>
      cases hb : part n ys (i * size) with
      | none => rw [ha, hb] at hr'; cases hr'
      | some b =>
        rw [ha, hb] at hr'
        simp only at hr'
        obtain ⟨a', ra, va⟩ := part_rel hp hx ha
        obtain ⟨b', rb, vb⟩ := part_rel hp hy hb
        simp only [List.range'_succ, Op.eqItems, Sem.run_bind, ra, rb, Result.andThen_ok]
        cases hq : aeq e a b with
        | none => rw [hq] at hr'; cases hr'
        | some q =>
          rw [hq] at hr'
          rw [ih e el he D hD a b a' b' q va vb hq]
          cases q
          · simp only at hr'; cases hr'
            simp
          · simp only at hr'
            have := aeq_elems ih hD m (i + 1) rest hf xs ys xs' ys' r hx hy hr'
            simpa using this

set_option maxHeartbeats 1000000 in
theorem aeq_run : ∀ (d : Nat) (e : EqK) (t : TypeId), eqkIs P d e t = true → ∀ D, d ≤ D → ∀ a b a' b' r, VRel esz φ a a' → VRel esz φ b b' → aeq e a b = some r → (Op.equalIn D t a' b').run P w = .ok r w := by
  intro d
  induction d with
  | zero => intro e t h; simp [eqkIs] at h
  | succ d ih =>
    intro e t h D hD a b a' b' r ha hb hr
    obtain ⟨D, rfl⟩ : ∃ m, D = m + 1 := ⟨D - 1, by omega⟩
    have hD' : d ≤ D := by omega
    unfold eqkIs at h
    split at h
    · rename_i hd
      have hr' : aeqB a b = some r := hr
      unfold aeqB at hr'
      split at hr' <;> cases hr'
      cases ha; cases hb
      simp [Op.equalIn, run_underlying hd, eqBeqBool]
    · rename_i k hd
      have hr' : aeqI a b = some r := hr
      unfold aeqI at hr'
      split at hr'
      · rename_i k1 x k2 y
        by_cases hk : eqKind k1 k2 = true
        · rw [bif_true hk] at hr'; cases hr'
          rw [eqKind_iff] at hk; subst hk
          cases ha; cases hb
          simp [Op.equalIn, run_underlying hd, eqBeqInt]
        · rw [bif_false (bool_false hk)] at hr'; cases hr'
      · cases hr'
    · rename_i hd
      have hr' : aeqS a b = some r := hr
      unfold aeqS at hr'
      split at hr' <;> cases hr'
      cases ha; cases hb
      rename_i s1 s2
      simp only [Op.equalIn, Sem.run_bind, run_underlying hd, Result.andThen_ok, Sem.run_pure]
      rw [beq_toListBytes, eqBytes]
    · rename_i el hd
      have hr' : aeqP a b = some r := hr
      unfold aeqP at hr'
      split at hr'
      · cases hr'; cases ha; cases hb; simp [Op.equalIn, run_underlying hd]
      · cases hr'; cases ha; cases hb; simp [Op.equalIn, run_underlying hd]
      · cases hr'; cases ha; cases hb; simp [Op.equalIn, run_underlying hd]
      · rename_i i1 o1 i2 o2
        by_cases hi : Nat.beq i1 i2 = true
        · rw [bif_true hi] at hr'; cases hr'
          rw [beqN] at hi; subst hi
          cases ha with
          | ptr _ hp =>
            cases hb with
            | ptr _ hq =>
              rw [hp] at hq; cases hq
              rename_i p
              cases hinf : P.info? el with
              | none => simp [hinf] at h
              | some inf =>
                simp only [hinf] at h
                have hn : P.cellsOf el ≠ 0 := by simp [Program.cellsOf, hinf]; intro h0; rw [h0] at h; simp at h
                have e1 : ((⟨p.blk, p.base + o1, none⟩ : Addr) == ⟨p.blk, p.base + o2, none⟩) = Nat.beq o1 o2 := by
                  rw [Bool.eq_iff_iff, beqN]; simp
                simp [Op.equalIn, run_underlying hd, run_sizeOf w hinf, hn, sameAddr, e1]
        · rw [bif_false (bool_false hi)] at hr'; cases hr'
      · cases hr'
    · rename_i ms hd
      have hr' : aeqIfc a b = some r := hr
      unfold aeqIfc at hr'
      split at hr' <;> cases hr' <;> cases ha <;> cases hb <;> simp [Op.equalIn, run_underlying hd]
    · rename_i el hd
      have hr' : aeqSl a b = some r := hr
      unfold aeqSl at hr'
      split at hr' <;> cases hr' <;> cases ha <;> cases hb <;> simp [Op.equalIn, run_underlying hd]
    · rename_i k el hd
      have hr' : aeqM a b = some r := hr
      unfold aeqM at hr'
      split at hr' <;> cases hr' <;> cases ha <;> cases hb <;> simp [Op.equalIn, run_underlying hd]
    · rename_i p1 p2 p3 hd
      have hr' : aeqF a b = some r := hr
      unfold aeqF at hr'
      split at hr' <;> cases hr' <;> cases ha <;> cases hb <;> simp [Op.equalIn, run_underlying hd]
    · rename_i fs l hd
      simp only [Bool.and_eq_true, Bool.not_eq_true'] at h
      have hr' : aeqSt (aeq l) a b = some r := hr
      unfold aeqSt at hr'
      split at hr'
      · cases ha with
        | agg hx =>
          cases hb with
          | agg hy =>
            have hf : P.fieldsOf t = fs := by simp [Program.fieldsOf, hd]
            rw [run_equalIn_struct w D t _ _ (by rw [hf]; exact hd) h.1, hf]
            exact aeq_fields ih hD' fs.toList l h.2 _ _ _ _ r hx hy hr'
      · cases hr'
    · rename_i n el l hd
      cases hi : P.info? el with
      | none => simp [hi] at h
      | some inf =>
        simp only [hi] at h
        have hr' : aeqSt (aeq l) a b = some r := hr
        unfold aeqSt at hr'
        split at hr'
        · cases ha with
          | agg hx =>
            cases hb with
            | agg hy =>
              rw [run_equalIn_array w D _ _ hd hi, List.range_eq_range', show P.cellsOf el = inf.size by simp [Program.cellsOf, hi]]
              exact aeq_elems ih hD' n 0 l h _ _ _ _ r hx hy hr'
        · cases hr'
    · cases h

theorem aeq_niliface {e : EqK} {r : Bool} (h : aeq e .niliface .niliface = some r) : e = .ifc ∨ e = .fnil := by
  cases e <;> first | exact .inl rfl | exact .inr rfl | (exact absurd h (by intro h; cases h))
theorem eqkIs_fnil {d : Nat} {t : TypeId} (h : eqkIs P d .fnil t = true) : False := by
  cases d with
  | zero => simp [eqkIs] at h
  | succ d => unfold eqkIs at h; split at h <;> first | cases h; done | (rename_i hh; cases hh)
theorem eqkIs_fcons {d off n : Nat} {e r : EqK} {t : TypeId} (h : eqkIs P d (.fcons off n e r) t = true) : False := by
  cases d with
  | zero => simp [eqkIs] at h
  | succ d => unfold eqkIs at h; split at h <;> first | cases h; done | (rename_i hh; cases hh)
theorem aeq_any_l {e : EqK} {b : AVal} {r : Bool} {d : Nat} {t : TypeId} (hk : eqkIs P d e t = true) (h : aeq e .any b = some r) : False := by
  cases e <;> first | (exact eqkIs_fnil hk) | (exact eqkIs_fcons hk) | (exact absurd h (by intro h; cases b <;> cases h))
theorem aeq_any_r {e : EqK} {a : AVal} {r : Bool} {d : Nat} {t : TypeId} (hk : eqkIs P d e t = true) (h : aeq e a .any = some r) : False := by
  cases e <;> first | (exact eqkIs_fnil hk) | (exact eqkIs_fcons hk) | (exact absurd h (by intro h; cases a <;> cases h))
theorem aeq_agg {e : EqK} {xs ys : List AVal} {r : Bool} {d : Nat} {t : TypeId} (hk : eqkIs P d e t = true) (h : aeq e (.agg xs) (.agg ys) = some r) : ∃ l, e = .st l := by
  cases e <;> first | exact ⟨_, rfl⟩ | (exact (eqkIs_fnil hk).elim) | (exact (eqkIs_fcons hk).elim) | (exact absurd h (by intro h; cases h))

theorem eqGuard_ok {op : BinOp} {t : TypeId} {x y : Operand} {e : EqK} {a b : AVal} {r : Bool} (hk : eqkIs P 8 e t = true) (hr : aeq e a b = some r)
    (h : guardIs P e t x y = true) {x' y' : Value} (ha : VRel esz φ a x') (hb : VRel esz φ b y') : (eqGuard op t x y x' y').run P w = .ok () w := by
  cases ha with
  | any => exact (aeq_any_l hk hr).elim
  | niliface =>
    cases hb with
    | any => exact (aeq_any_r hk hr).elim
    | niliface =>
      rcases aeq_niliface hr with rfl | rfl
      · cases x <;> cases y <;> first | (simp [guardIs] at h; done) | (cases op <;> rfl)
      · exact (eqkIs_fnil hk).elim
    | _ => cases op <;> rfl
  | agg hxs =>
    cases hb with
    | any => exact (aeq_any_r hk hr).elim
    | agg hys =>
      obtain ⟨l, rfl⟩ := aeq_agg hk hr
      have h2 : (!P.eqGuardType P.depth t) = true := h
      simp only [Bool.not_eq_true'] at h2
      exact run_eqGuard_agg w op t x y _ _ h2
    | _ => cases op <;> rfl
  | _ => cases hb <;> cases op <;> rfl

set_option maxHeartbeats 1000000 in
theorem eql_run {t : TypeId} {a b : AVal} {x y : Value} {r : Bool} (ha : VRel esz φ a x) (hb : VRel esz φ b y) (hni : ∀ ka n kb m, a = .int ka n → b = .int kb m → False) (hns : ∀ s u, a = .str s → b = .str u → False)
    (hna : a ≠ .any) (hnb : b ≠ .any) (h : (Op.equal t x y).run P w = .ok r w) :
    (binOp .eql t x y).run P w = .ok (.bool r) w ∧ (binOp .neq t x y).run P w = .ok (.bool (!r)) w := by
  have h1 : (binOp .eql t x y) = (do pure (.bool (← Op.equal t x y))) := by
    cases ha <;> first | (exact absurd rfl hna) | skip
    all_goals (cases hb <;> first | (exact absurd rfl hnb) | (exact (hni _ _ _ _ rfl rfl).elim) | (exact (hns _ _ rfl rfl).elim) | rfl)
  have h2 : (binOp .neq t x y) = (do pure (.bool (!(← Op.equal t x y)))) := by
    cases ha <;> first | (exact absurd rfl hna) | skip
    all_goals (cases hb <;> first | (exact absurd rfl hnb) | (exact (hni _ _ _ _ rfl rfl).elim) | (exact (hns _ _ rfl rfl).elim) | rfl)
  rw [h1, h2]
  simp [h]

theorem pure_bin {op : BinOp} {e : EqK} {vs : List AVal} {v : AVal} (hok : okK P o.op (.bin op e) = true) (hr : VRels esz φ vs ((argsOf o.op).map ρ)) (ha : actK (.bin op e) vs = .val v) : PureRes esz φ P ρ o v := by
  have ha' : aBin op e vs = .val v := ha
  cases hop : o.op <;> rw [hop] at hok hr <;> first | (simp [okK] at hok; done) | skip
  rename_i op' t x y yt
  simp only [okK, Bool.and_eq_true] at hok
  obtain ⟨hop1, hguard⟩ := hok
  have hop' : op = op' := by simpa [eqBin] using hop1
  subst hop'
  intro w
  unfold aBin at ha'
  split at ha'
  · rename_i ka a kb b
    by_cases hk : (isShift op || eqKind ka kb) = true
    · rw [bif_true hk] at ha'
      obtain ⟨u1, u2, e1, h1, h2⟩ := hr.inv2
      simp only [argsOf, List.map_cons, List.map_nil, List.cons.injEq, and_true] at e1
      obtain ⟨rfl, rfl⟩ := e1
      cases hx : ρ x <;> rw [hx] at h1 <;> first | (cases h1; done) | skip
      cases h1
      cases hy : ρ y <;> rw [hy] at h2 <;> first | (cases h2; done) | skip
      cases h2
      cases hb : intBin op ka a b with
      | none => rw [hb] at ha'; cases ha'
      | some z =>
        rw [hb] at ha'; cases ha'
        obtain ⟨v', hv, hvr⟩ := intBin_run (esz := esz) (φ := φ) (P := P) (t := t) hk hb w
        exact ⟨v', by simp [execOp, hop, hx, hy, eqGuard, hv], hvr⟩
    · rw [bif_false (bool_false hk)] at ha'; cases ha'
  · rename_i a b
    obtain ⟨u1, u2, e1, h1, h2⟩ := hr.inv2
    simp only [argsOf, List.map_cons, List.map_nil, List.cons.injEq, and_true] at e1
    obtain ⟨rfl, rfl⟩ := e1
    cases hx : ρ x <;> rw [hx] at h1 <;> first | (cases h1; done) | skip
    cases h1
    cases hy : ρ y <;> rw [hy] at h2 <;> first | (cases h2; done) | skip
    cases h2
    rename_i s1 s2
    cases hb : strBin op (ofBytes s1) (ofBytes s2) with
    | none => rw [hb] at ha'; cases ha'
    | some z =>
      rw [hb] at ha'; cases ha'
      obtain ⟨v', hv, hvr⟩ := strBin_run (esz := esz) (φ := φ) (P := P) (t := t) hb w
      exact ⟨v', by simp [execOp, hop, hx, hy, eqGuard, hv], hvr⟩
  · rename_i a b hni hns
    obtain ⟨u1, u2, e1, h1, h2⟩ := hr.inv2
    simp only [argsOf, List.map_cons, List.map_nil, List.cons.injEq, and_true] at e1
    obtain ⟨rfl, rfl⟩ := e1
    have fin : ∀ (neg : Bool) (r : Bool), op = (if neg then BinOp.neq else BinOp.eql) → aeq e a b = some r → v = .bool (if neg then !r else r) →
        ∃ v', (execOp ρ o).run P w = .ok (.value v') w ∧ VRel esz φ v v' := by
      intro neg r hopn hae hv
      have heq : isEqOp op = true := by cases neg <;> rw [hopn] <;> rfl
      rw [bif_true heq] at hguard
      simp only [Bool.and_eq_true] at hguard
      have hg := eqGuard_ok (w := w) (op := op) hguard.1 hae hguard.2 h1 h2
      have hrun := aeq_run (w := w) 8 e t hguard.1 Op.maxDepth (by decide) a b (ρ x) (ρ y) r h1 h2 hae
      have hab := eql_run (w := w) (P := P) (t := t) h1 h2 hni hns
        (fun e1 => by subst e1; exact aeq_any_l hguard.1 hae) (fun e1 => by subst e1; exact aeq_any_r hguard.1 hae) hrun
      have hb : (binOp op t (ρ x) (ρ y)).run P w = .ok (.bool (if neg then !r else r)) w := by
        rw [hopn]
        cases neg
        · exact hab.1
        · exact hab.2
      exact ⟨.bool (if neg then !r else r), by simp [execOp, hop, hg, hb], by rw [hv]; exact .bool _⟩
    split at ha'
    · cases hae : aeq e a b with
      | none => rw [hae] at ha'; cases ha'
      | some r => rw [hae] at ha'; cases ha'; exact fin false r rfl hae rfl
    · cases hae : aeq e a b with
      | none => rw [hae] at ha'; cases ha'
      | some r => rw [hae] at ha'; cases ha'; exact fin true r rfl hae rfl
    · cases ha'
  · cases ha'
end
end Go.Am
