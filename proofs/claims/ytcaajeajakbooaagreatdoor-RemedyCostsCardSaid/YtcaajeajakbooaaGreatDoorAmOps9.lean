/-
  Single operations of the abstract machine are those of the model, part 9.
-/
import Derived.Test.YtcaajeajakbooaaGreatDoorAmOps8
import Derived.MapKept
set_option linter.unusedVariables false
set_option linter.unusedSimpArgs false
namespace Go.Am
open Go

section
variable {esz : TypeId → Nat} {φ : Phi} {P : Program} {w : World} {ρ : Operand → Value} {o : Oper}

theorem keqL_aeq : ∀ (l : EqK) (i : Nat) (cs xs ys zs : List AVal) (r : Bool), flatK l i cs = true → xs.drop i = cs → ys.drop i = zs → keqL cs zs = some r → aeq l (.agg xs) (.agg ys) = some r := by
  intro l
  induction l with
  | fnil =>
    intro i cs xs ys zs r h hx hy hk
    cases cs with
    | nil =>
      cases zs with
      | nil => simp [keqL] at hk; subst hk; rfl
      | cons z zs => simp [keqL] at hk
    | cons c cs => simp [flatK] at h
  | fcons off n e rest _ ih =>
    intro i cs xs ys zs r h hx hy hk
    cases cs with
    | nil => simp [flatK] at h
    | cons c cs =>
      simp only [flatK, Bool.and_eq_true, beqN] at h
      obtain ⟨⟨⟨rfl, rfl⟩, hc⟩, hf⟩ := h
      cases zs with
      | nil => cases c <;> simp [keqL] at hk
      | cons z zs =>
        have nx : nth xs off = some c := by rw [nth_eq]; have := congrArg List.head? hx; simpa using this
        have ny : nth ys off = some z := by rw [nth_eq]; have := congrArg List.head? hy; simpa using this
        have dx : xs.drop (off + 1) = cs := by rw [← List.drop_drop, hx]; rfl
        have dy : ys.drop (off + 1) = zs := by rw [← List.drop_drop, hy]; rfl
        show (match part 0 xs off, part 0 ys off with
          | some a, some b => (match aeq e a b with | some true => aeq rest (.agg xs) (.agg ys) | r => r)
          | _, _ => none) = some r
        have px : part 0 xs off = some c := nx
        have py : part 0 ys off = some z := ny
        rw [px, py]
        simp only
        cases e <;> cases c <;> first | (simp at hc; done) | skip
        · cases z <;> first | (simp [keqL] at hk; done) | skip
          rename_i a b
          show (match (some (eqBool a b) : Option Bool) with | some true => aeq rest (.agg xs) (.agg ys) | r => r) = some r
          simp only [keqL] at hk
          by_cases hq : eqBool a b = true
          · rw [bif_true hq] at hk; rw [hq]; exact ih _ _ _ _ _ _ hf dx dy hk
          · rw [bif_false (bool_false hq)] at hk; rw [bool_false hq]; exact hk
        · cases z <;> first | (simp [keqL] at hk; done) | skip
          rename_i k a k' b
          show (match (bif eqKind k k' then some (eqInt a b) else none : Option Bool) with | some true => aeq rest (.agg xs) (.agg ys) | r => r) = some r
          simp only [keqL] at hk
          by_cases hk2 : eqKind k k' = true
          · rw [bif_true hk2] at hk ⊢
            by_cases hq : eqInt a b = true
            · rw [bif_true hq] at hk; rw [hq]; exact ih _ _ _ _ _ _ hf dx dy hk
            · rw [bif_false (bool_false hq)] at hk; rw [bool_false hq]; exact hk
          · rw [bif_false (bool_false hk2)] at hk; cases hk
        · cases z <;> first | (simp [keqL] at hk; done) | skip
          rename_i a b
          show (match (some (eqStr a b) : Option Bool) with | some true => aeq rest (.agg xs) (.agg ys) | r => r) = some r
          simp only [keqL] at hk
          by_cases hq : eqStr a b = true
          · rw [bif_true hq] at hk; rw [hq]; exact ih _ _ _ _ _ _ hf dx dy hk
          · rw [bif_false (bool_false hq)] at hk; rw [bool_false hq]; exact hk
  | _ => intro i cs xs ys zs r h; cases cs <;> simp [flatK] at h

theorem keq_aeq {e : EqK} {a b : AVal} {r : Bool} (h : keyOk e a = true) (hk : keq a b = some r) : aeq e a b = some r := by
  unfold keyOk at h
  split at h <;> first | (cases h; done) | skip
  · cases b <;> first | (simp [keq] at hk; done) | exact hk
  · cases b <;> first | (simp [keq] at hk; done) | exact hk
  · cases b <;> first | (simp [keq] at hk; done) | exact hk
  · cases b <;> first | (simp [keq] at hk; done) | skip
    rename_i l cs ys
    show aeq l (.agg cs) (.agg ys) = some r
    exact keqL_aeq l 0 cs cs ys ys r h rfl rfl hk

theorem keqL_cons {x y : AVal} {xs ys : List AVal} (h : keqL (x :: xs) (y :: ys) = some true) : (∀ l, x ≠ .agg l) ∧ keq x y = some true ∧ keqL xs ys = some true := by
  cases x <;> first | (simp [keqL] at h; done) | skip
  · cases y <;> first | (simp [keqL] at h; done) | skip
    rename_i a b
    simp only [keqL] at h
    by_cases hq : eqBool a b = true
    · rw [bif_true hq] at h; exact ⟨by simp, by simp [keq, hq], h⟩
    · rw [bif_false (bool_false hq)] at h; cases h
  · cases y <;> first | (simp [keqL] at h; done) | skip
    rename_i k a k' b
    simp only [keqL] at h
    by_cases hk : eqKind k k' = true
    · rw [bif_true hk] at h
      by_cases hq : eqInt a b = true
      · rw [bif_true hq] at h; exact ⟨by simp, by simp [keq, hq, hk], h⟩
      · rw [bif_false (bool_false hq)] at h; cases h
    · rw [bif_false (bool_false hk)] at h; cases h
  · cases y <;> first | (simp [keqL] at h; done) | skip
    rename_i a b
    simp only [keqL] at h
    by_cases hq : eqStr a b = true
    · rw [bif_true hq] at h; exact ⟨by simp, by simp [keq, hq], h⟩
    · rw [bif_false (bool_false hq)] at h; cases h

theorem keq_same1 {a b : AVal} {u v : Value} (hp : ∀ l, a ≠ .agg l) (h : keq a b = some true) (ha : VRel esz φ a u) (hb : VRel esz φ b v) (n : Nat) : Instr.sameBits n v u = true := by
  unfold keq at h
  split at h <;> first | (cases h; done) | skip
  · rename_i x y
    simp only [Option.some.injEq] at h
    rw [eqBool_iff] at h; subst h
    cases ha; cases hb; cases n <;> simp [Instr.sameBits]
  · rename_i k x k' y
    by_cases hk : eqKind k k' = true
    · rw [bif_true hk] at h
      simp only [Option.some.injEq] at h
      rw [eqInt_iff] at h; subst h
      rw [eqKind_iff] at hk; subst hk
      cases ha; cases hb; cases n <;> simp [Instr.sameBits]
    · rw [bif_false (bool_false hk)] at h; cases h
  · rename_i x y
    simp only [Option.some.injEq] at h
    rw [eqStr_iff] at h; subst h
    cases ha with
    | str s =>
    generalize hq : ofBytes s = q at hb
    cases hb with
    | str t =>
    rw [ofBytes_inj] at hq; subst hq
    cases n <;> simp only [Instr.sameBits] <;> exact (MapKept.bytes_beq s s).2 rfl
  · exact absurd rfl (hp _)

theorem keqL_same : ∀ (xs ys : List AVal) (us vs : List Value), keqL xs ys = some true → VRels esz φ xs us → VRels esz φ ys vs → us.length = vs.length ∧ ∀ n, ∀ x ∈ vs.zip us, Instr.sameBits n x.1 x.2 = true
  | [], [], us, vs, _, hx, hy => by cases hx; cases hy; exact ⟨rfl, fun n x h => by simp at h⟩
  | [], _ :: _, _, _, h, _, _ => by simp [keqL] at h
  | x :: _, [], _, _, h, _, _ => by cases x <;> simp [keqL] at h
  | x :: xs, y :: ys, us, vs, h, hx, hy => by
    cases hx with
    | cons hx tx =>
    cases hy with
    | cons hy ty =>
    obtain ⟨h1, h2, h3⟩ := keqL_cons h
    obtain ⟨e1, e2⟩ := keqL_same xs ys _ _ h3 tx ty
    refine ⟨by simp [e1], fun n x hx => ?_⟩
    simp only [List.zip_cons_cons, List.mem_cons] at hx
    rcases hx with rfl | hx
    · exact keq_same1 h1 h2 ‹_› ‹_› n
    · exact e2 n x hx

theorem keq_same {a b : AVal} {u v : Value} (h : keq a b = some true) (ha : VRel esz φ a u) (hb : VRel esz φ b v) : Instr.sameBits 10000 v u = true := by
  cases a with
  | agg x =>
    cases b <;> first | (simp [keq] at h; done) | skip
    rename_i y
    cases ha with
    | agg ha =>
    cases hb with
    | agg hb =>
    obtain ⟨e1, e2⟩ := keqL_same x y _ _ h ha hb
    simp only [Instr.sameBits, Bool.and_eq_true, beq_iff_eq, List.all_eq_true]
    exact ⟨by simpa using e1.symm, fun p hp => e2 _ p hp⟩
  | _ => exact keq_same1 (by simp) h ha hb _

/-! ### the check of a key; the entry with a key -/
theorem check_basic {t : TypeId} {e : EqK} {d n : Nat} {u : Value} {b : Bool} (hk : eqkIs P (d + 1) e t = true) (he : e = .b ∨ e = .i ∨ e = .s) (w : World) : (Instr.checkKey b (n + 1) t u).run P w = .ok () w := by
  unfold eqkIs at hk
  split at hk <;> first | (cases hk; done) | skip
  all_goals rename_i hd
  all_goals first | (simp [Instr.checkKey, run_underlying hd]; done) | (rcases he with h | h | h <;> cases h)

theorem check_key {e : EqK} {t : TypeId} {a : AVal} {u : Value} {b : Bool} {d : Nat} (hk : eqkIs P (d + 2) e t = true) (hna : noArr P t = true) (hok : keyOk e a = true) (ha : VRel esz φ a u) (w : World) (n : Nat) :
    (Instr.checkKey b (n + 2) t u).run P w = .ok () w := by
  by_cases he : e = .b ∨ e = .i ∨ e = .s
  · exact check_basic (d := d + 1) hk he w
  · unfold keyOk at hok
    split at hok <;> first | (cases hok; done) | (simp at he; done) | skip
    rename_i l cs
    cases ha with
    | @agg _ us ha =>
    unfold eqkIs at hk
    split at hk <;> first | (cases hk; done) | skip
    all_goals rename_i hq
    all_goals first | (cases hq; done) | skip
    · rename_i fs l' hd
      cases hq
      simp only [Bool.and_eq_true] at hk
      obtain ⟨_, hf⟩ := hk
      rw [Instr.checkKey]
      simp only [Sem.run_bind, run_underlying hd, Result.andThen_ok]
      rw [← Array.forIn_toList]
      have gen : ∀ (fs : List Field) (l : EqK) (i : Nat) (ds : List AVal), fieldsIs P (eqkIs P (d + 1)) fs l = true → flatK l i ds = true → cs.drop i = ds →
          (forIn fs PUnit.unit fun (f : Field) (_ : PUnit) =>
            if f.name ≠ "_" then (do
              let v ← Go.part f.type us f.offset
              Instr.checkKey b (n + 1) f.type v
              pure (ForInStep.yield PUnit.unit)) else pure (ForInStep.yield PUnit.unit)).run P w = .ok PUnit.unit w := by
        intro fs
        induction fs with
        | nil => intro l i ds _ _ _; simp
        | cons f fs ih =>
          intro l i ds h1 h2 h3
          unfold fieldsIs at h1
          by_cases hn : f.name = "_"
          · rw [bif_true (by simpa using hn)] at h1
            have := ih l i ds h1 h2 h3
            simp only [List.forIn_cons, hn, ne_eq, not_true_eq_false, if_false, Sem.run_bind, Sem.run_pure, Result.andThen_ok]
            exact this
          · rw [bif_false (by simpa using hn)] at h1
            split at h1
            · rename_i off m e rest
              simp only [Bool.and_eq_true, beqN] at h1
              obtain ⟨⟨⟨rfl, hp⟩, he'⟩, hrest⟩ := h1
              cases ds with
              | nil => simp [flatK] at h2
              | cons c ds =>
                simp only [flatK, Bool.and_eq_true, beqN] at h2
                obtain ⟨⟨⟨rfl, rfl⟩, hc⟩, h2⟩ := h2
                have nx : Go.Am.part 0 cs f.offset = some c := by
                  show nth cs f.offset = some c
                  rw [nth_eq]; have := congrArg List.head? h3; simpa using this
                obtain ⟨v, rv, vv⟩ := part_rel hp ha nx
                have hb : e = .b ∨ e = .i ∨ e = .s := by
                  cases e <;> simp_all
                have hck := check_basic (P := P) (d := d) (n := n) (u := v) (b := b) he' hb w
                have dx : cs.drop (f.offset + 1) = ds := by rw [← List.drop_drop, h3]; rfl
                have := ih rest _ ds hrest h2 dx
                simp only [List.forIn_cons, hn, ne_eq, not_false_eq_true, if_true, Sem.run_bind, rv, hck, Sem.run_pure, Result.andThen_ok]
                exact this
            · cases h1
      have := gen fs.toList l 0 cs hf hok rfl
      rw [this]
      simp
    · rename_i m el l' hd
      cases hq
      split at hk <;> first | (cases hk; done) | skip
      rename_i inf hi
      rw [Instr.checkKey]
      simp only [Sem.run_bind, run_underlying hd, Result.andThen_ok]
      simp only [Std.Legacy.Range.forIn_eq_forIn_range', Std.Legacy.Range.size, Nat.sub_zero, Nat.add_one_sub_one, Nat.div_one]
      obtain ⟨_, _, _, _, hsz⟩ := sizeIs_some (P := P) (t := el) (n := inf.size) (by simp [sizeIs, hi])
      have gen : ∀ (m i idx : Nat) (l : EqK) (ds : List AVal), elemsIs P (eqkIs P (d + 1)) el inf.size m i l = true → flatK l idx ds = true → cs.drop idx = ds →
          (forIn (List.range' i m) PUnit.unit fun (j : Nat) (_ : PUnit) => (do
              let s ← sizeOf el
              let v ← Go.part el us (j * s)
              Instr.checkKey b (n + 1) el v
              pure (ForInStep.yield PUnit.unit))).run P w = .ok PUnit.unit w := by
        intro m
        induction m with
        | zero => intro i idx l ds _ _ _; simp
        | succ m ih =>
          intro i idx l ds h1 h2 h3
          cases l <;> first | (simp [elemsIs] at h1; done) | skip
          rename_i off k e rest
          simp only [elemsIs, Bool.and_eq_true, beqN] at h1
          obtain ⟨⟨⟨rfl, hp⟩, he'⟩, hrest⟩ := h1
          cases ds with
          | nil => simp [flatK] at h2
          | cons c ds =>
            simp only [flatK, Bool.and_eq_true, beqN] at h2
            obtain ⟨⟨⟨rfl, rfl⟩, hc⟩, h2⟩ := h2
            have nx : Go.Am.part 0 cs (i * inf.size) = some c := by
              show nth cs (i * inf.size) = some c
              rw [nth_eq]; have := congrArg List.head? h3; simpa using this
            obtain ⟨v, rv, vv⟩ := part_rel hp ha nx
            have hb : e = .b ∨ e = .i ∨ e = .s := by
              cases e <;> simp_all
            have hck := check_basic (P := P) (d := d) (n := n) (u := v) (b := b) he' hb w
            have dx : cs.drop (i * inf.size + 1) = ds := by rw [← List.drop_drop, show cs.drop (i * inf.size) = _ from h3]; rfl
            have := ih (i + 1) (i * inf.size + 1) rest ds hrest h2 dx
            simp only [List.range'_succ, List.forIn_cons, Sem.run_bind, hsz, rv, hck, Sem.run_pure, Result.andThen_ok]
            exact this
      have := gen m 0 0 l cs hk hok rfl
      rw [this]
      simp

/-- what the search for a key finds -/
def FR (i : Nat) (l : List MapEntry) (r : Option (Nat × AVal × Nat)) (q : Option (Nat × Value)) : Prop :=
  match r, q with
  | none, none => True
  | some (j, _, _), some (j', v') => j' = j ∧ i ≤ j ∧ ∃ x, l[j - i]? = some x ∧ x.val = v'
  | _, _ => False

theorem afind_some {a : AVal} : ∀ (es : List (AVal × AVal × Nat)) (i : Nat) (j : Nat) (v : AVal) (b : Nat), afind a es i = some (some (j, v, b)) → i ≤ j ∧ ∃ k, es[j - i]? = some (k, v, b) ∧ keq a k = some true
  | [], i, j, v, b, h => by simp [afind] at h
  | (k, v', b') :: es, i, j, v, b, h => by
    unfold afind at h
    split at h
    · rename_i hk
      simp only [Option.some.injEq, Prod.mk.injEq] at h
      obtain ⟨rfl, rfl, rfl⟩ := h
      exact ⟨Nat.le_refl _, k, by simp, hk⟩
    · obtain ⟨h1, k', h2, h3⟩ := afind_some es (i + 1) j v b h
      refine ⟨by omega, k', ?_, h3⟩
      rw [show j - i = (j - (i + 1)) + 1 by omega]
      simpa using h2
    · cases h

theorem sameNow_keq {d : TypeDesc} {a k : AVal} {u v : Value} {q r : Bool} (ha : VRel esz φ a u) (hk : VRel esz φ k v) (h : Instr.sameNow d u v = some q) (hr : keq a k = some r) : q = r := by
  unfold Instr.sameNow at h
  split at h <;> first | (cases h; done) | skip
  · rename_i k1 x k2 y
    by_cases he : k1 = k2
    · rw [if_pos he] at h
      cases ha <;> first | (simp [keq] at hr; done) | skip
      cases hk <;> first | (simp [keq] at hr; done) | skip
      subst he
      simp only [keq] at hr
      rw [bif_true (eqKind_iff.2 rfl)] at hr
      cases h; cases hr
      rw [Bool.eq_iff_iff, eqInt_iff]; simp
    · rw [if_neg he] at h; cases h
  · cases ha <;> first | (simp [keq] at hr; done) | skip
    cases hk <;> first | (simp [keq] at hr; done) | skip
    simp only [keq] at hr
    cases h; cases hr
    rw [Bool.eq_iff_iff, eqStr_iff, ofBytes_inj]
    exact MapKept.bytes_beq _ _
  · cases ha <;> first | (simp [keq] at hr; done) | skip
    cases hk <;> first | (simp [keq] at hr; done) | skip
    simp only [keq] at hr
    cases h; cases hr
    rw [Bool.eq_iff_iff, eqBool_iff]; simp

theorem findNow_rel {d : TypeDesc} {a : AVal} {u : Value} (ha : VRel esz φ a u) : ∀ (es : List (AVal × AVal × Nat)) (l : List MapEntry) (i : Nat) (r : Option (Nat × AVal × Nat)) (q : Option (Nat × Value)),
    All2 (ERel esz φ) es l → afind a es i = some r → Instr.findNow d u l i = some q → FR i l r q
  | _, _, i, r, q, .nil, h, k => by
    simp only [afind, Option.some.injEq] at h
    simp only [Instr.findNow, Option.some.injEq] at k
    subst h; subst k
    trivial
  | _, _, i, r, q, .cons (a := x) (b := y) (l := es) (m := l) hxy t, h, k => by
    obtain ⟨kx, vx, bx⟩ := x
    unfold afind at h
    unfold Instr.findNow at k
    cases hs : Instr.sameNow d u y.key with
    | none => rw [hs] at k; cases k
    | some s =>
      rw [hs] at k
      cases hq : keq a kx with
      | none => rw [hq] at h; cases h
      | some q' =>
        rw [hq] at h
        have := sameNow_keq ha hxy.key hs hq
        subst this
        cases s
        · simp only at h k
          have := findNow_rel ha es l (i + 1) r q t h k
          unfold FR at this ⊢
          split at this
          · trivial
          · obtain ⟨e1, e2, x', e3, e4⟩ := this
            rename_i j _ _ _ _
            refine ⟨e1, by omega, x', ?_, e4⟩
            rw [show j - i = (j - (i + 1)) + 1 by omega]
            simpa using e3
          · exact this
        · simp only [Option.some.injEq] at h k
          subst h; subst k
          exact ⟨rfl, Nat.le_refl _, y, by simp, rfl⟩

theorem findAsking_rel {a : AVal} {u : Value} {e : EqK} {t : TypeId} (hk : eqkIs P 8 e t = true) (hok : keyOk e a = true) (ha : VRel esz φ a u) (w : World) :
    ∀ (es : List (AVal × AVal × Nat)) (l : List MapEntry) (i : Nat) (r : Option (Nat × AVal × Nat)), All2 (ERel esz φ) es l → afind a es i = some r → ∃ q, (Instr.findAsking t u l i).run P w = .ok q w ∧ FR i l r q
  | _, _, i, r, .nil, h => by
    simp only [afind, Option.some.injEq] at h
    subst h
    exact ⟨none, by simp [Instr.findAsking], trivial⟩
  | _, _, i, r, .cons (a := x) (b := y) (l := es) (m := l) hxy tl, h => by
    obtain ⟨kx, vx, bx⟩ := x
    unfold afind at h
    cases hq : keq a kx with
    | none => rw [hq] at h; cases h
    | some q' =>
      rw [hq] at h
      have heq : (Op.equal t u y.key).run P w = .ok q' w := aeq_run 8 e t hk _ (by simp [Op.maxDepth]) a kx u y.key q' ha hxy.key (keq_aeq hok hq)
      cases q'
      · simp only at h
        obtain ⟨q, h1, h2⟩ := findAsking_rel hk hok ha w es l (i + 1) r tl h
        refine ⟨q, by simp [Instr.findAsking, heq, h1], ?_⟩
        unfold FR at h2 ⊢
        split at h2
        · trivial
        · obtain ⟨e1, e2, x', e3, e4⟩ := h2
          rename_i j _ _ _ _
          refine ⟨e1, by omega, x', ?_, e4⟩
          rw [show j - i = (j - (i + 1)) + 1 by omega]
          simpa using e3
        · exact h2
      · simp only [Option.some.injEq] at h
        subst h
        exact ⟨some (i, y.val), by simp [Instr.findAsking, heq], rfl, Nat.le_refl _, y, by simp, rfl⟩

theorem findKey_rel {a : AVal} {u : Value} {e : EqK} {t : TypeId} (hk : eqkIs P 8 e t = true) (hok : keyOk e a = true) (ha : VRel esz φ a u) (w : World) {es : List (AVal × AVal × Nat)} {l : List MapEntry} {r : Option (Nat × AVal × Nat)}
    (hl : All2 (ERel esz φ) es l) (h : afind a es 0 = some r) : ∃ q, (Instr.findKey t u l).run P w = .ok q w ∧ FR 0 l r q := by
  have hd : ∃ d, P.underlying t = some d := by
    unfold eqkIs at hk
    split at hk <;> first | (cases hk; done) | exact ⟨_, ‹_›⟩
  obtain ⟨d, hd⟩ := hd
  unfold Instr.findKey
  simp only [Sem.run_bind, run_underlying hd, Result.andThen_ok]
  cases hf : Instr.findNow d u l 0 with
  | some q =>
    exact ⟨q, by simp, findNow_rel ha es l 0 r q hl h hf⟩
  | none =>
    obtain ⟨q, h1, h2⟩ := findAsking_rel hk hok ha w es l 0 r hl h
    exact ⟨q, by simpa using h1, h2⟩

theorem All2.get {α β : Type} {R : α → β → Prop} {l : List α} {m : List β} (h : All2 R l m) : ∀ {j : Nat} {x : α} {y : β}, l[j]? = some x → m[j]? = some y → R x y := by
  induction h with
  | nil => intro j x y h; simp at h
  | cons h t ih =>
    intro j x y e1 e2
    cases j with
    | zero => simp at e1 e2; subst e1; subst e2; exact h
    | succ j => exact ih (by simpa using e1) (by simpa using e2)
theorem All2.length {α β : Type} {R : α → β → Prop} {l : List α} {m : List β} (h : All2 R l m) : l.length = m.length := by
  induction h with
  | nil => rfl
  | cons h t ih => simp [ih]
end
end Go.Am
