/-
  Single operations of the abstract machine are those of the model, part 6.
-/
import Derived.Test.YtcaajeajakbooaaGreatDoorAmOps5
set_option linter.unusedVariables false
set_option linter.unusedSimpArgs false
namespace Go.Am
open Go

section
variable {esz : TypeId → Nat} {φ : Phi} {P : Program} {w : World} {ρ : Operand → Value} {o : Oper}

theorem call_builtin {c : Call} {b : Builtin} (hop : o.op = .call c) (hc : c.callee = .builtin b) (w : World) :
    (execOp ρ o).run P w = (builtin b c.argTypes o.type (c.args.map fun | .const _ => true | _ => false) (c.args.map ρ)).run P w := by
  simp [execOp, hop, resolve, hc, invoke]
  rfl

theorem args_builtin {c : Call} {b : Builtin} (hc : c.callee = .builtin b) : argsOf (.call c) = c.args.toList := by
  simp [argsOf, hc]

theorem args_eq {c : Call} {l : List Value} (h : c.args.toList.map ρ = l) : c.args.map ρ = l.toArray := by
  apply Array.ext'; simp [← h]

theorem arg0 {a : Array TypeId} (h : (!(Nat.beq a.size 0)) = true) : a[0]? = some (a.getD 0 0) := by
  have h' : a.size ≠ 0 := by
    intro e; rw [e] at h; simp at h
  have : 0 < a.size := by omega
  simp [Array.getD, this]

theorem pure_tas {t : TypeId} {z : AVal} {ok : Bool} {vs : List AVal} {v : AVal} (hok : okK P o.op (.tas t z ok) = true) (hr : VRels esz φ vs ((argsOf o.op).map ρ)) (ha : actK (.tas t z ok) vs = .val v) : PureRes esz φ P ρ o v := by
  have ha' : aTas t z ok vs = .val v := ha
  cases hop : o.op <;> rw [hop] at hok hr <;> first | (simp [okK] at hok; done) | skip
  rename_i x xt t' ok'
  simp only [okK, Bool.and_eq_true, beqN, eqBool_iff] at hok
  obtain ⟨⟨⟨rfl, rfl⟩, hz⟩, hd⟩ := hok
  obtain ⟨zv, z1, z2⟩ := zeroVIs_some (esz := esz) (φ := φ) hz
  cases hdd : P.underlying t with
  | none => simp [hdd] at hd
  | some d =>
    unfold aTas at ha'
    split at ha' <;> first | (cases ha'; done) | skip
    · cases ok
      · simp at ha'
      · simp at ha'; subst ha'
        obtain ⟨u, e, h⟩ := hr.inv1
        simp only [argsOf, List.map_cons, List.map_nil, List.cons.injEq, and_true] at e
        rw [← e] at h
        cases hv : ρ x <;> rw [hv] at h <;> first | (cases h; done) | skip
        intro w
        refine ⟨.tuple #[zv, .bool false], ?_, .tup (.cons z2 (.cons (.bool _) .nil))⟩
        cases d <;> first | (simp [hdd] at hd; done) | simp [execOp, hop, hv, Instr.typeAssert, run_underlying hdd, z1]
    · rename_i u y
      obtain ⟨uu, e, h⟩ := hr.inv1
      simp only [argsOf, List.map_cons, List.map_nil, List.cons.injEq, and_true] at e
      rw [← e] at h
      cases hv : ρ x <;> rw [hv] at h <;> first | (cases h; done) | skip
      cases h with
      | iface _ h =>
      rename_i y'
      intro w
      by_cases hu : Nat.beq u t = true
      · rw [bif_true hu] at ha'; rw [beqN] at hu; subst hu
        cases ok
        · simp at ha'; subst ha'
          refine ⟨y', ?_, h⟩
          cases d <;> first | (simp [hdd] at hd; done) | simp [execOp, hop, hv, Instr.typeAssert, run_underlying hdd]
        · simp at ha'; subst ha'
          refine ⟨.tuple #[y', .bool true], ?_, .tup (.cons h (.cons (.bool _) .nil))⟩
          cases d <;> first | (simp [hdd] at hd; done) | simp [execOp, hop, hv, Instr.typeAssert, run_underlying hdd]
      · rw [bif_false (bool_false hu)] at ha'; rw [beqN] at hu
        cases ok
        · simp at ha'
        · simp at ha'; subst ha'
          refine ⟨.tuple #[zv, .bool false], ?_, .tup (.cons z2 (.cons (.bool _) .nil))⟩
          cases d <;> first | (simp [hdd] at hd; done) | simp [execOp, hop, hv, Instr.typeAssert, run_underlying hdd, z1, hu]

theorem pure_len {str : Bool} {vs : List AVal} {v : AVal} (hok : okK P o.op (.len str) = true) (hr : VRels esz φ vs ((argsOf o.op).map ρ)) (ha : actK (.len str) vs = .val v) : PureRes esz φ P ρ o v := by
  have ha' : aLen str vs = .val v := ha
  cases hop : o.op <;> rw [hop] at hok hr <;> first | (simp [okK] at hok; done) | skip
  rename_i c
  cases hc : c.callee <;> simp only [okK, hc] at hok <;> first | (cases hok; done) | skip
  rename_i b
  cases b <;> simp only [Bool.false_eq_true] at hok
  simp only [Bool.and_eq_true] at hok
  obtain ⟨hd, h0⟩ := hok
  rw [args_builtin hc] at hr
  have e0 := arg0 h0
  generalize hT : c.argTypes.getD 0 0 = T at *
  intro w
  cases hdd : P.underlying T with
  | none => simp [hdd] at hd
  | some d =>
    rw [hdd] at hd
    unfold aLen at ha'
    split at ha' <;> first | (cases ha'; done) | skip
    · obtain ⟨u, e, h⟩ := hr.inv1
      have ea := args_eq e
      rw [call_builtin hop hc, ea]
      cases str <;> first | (simp at ha'; done) | skip
      cases ha'
      cases h
      refine ⟨.int .i64 _, ?_, .int _ _⟩
      cases d <;> first | (simp at hd; done) | simp [builtin, Builtin.len_, e0, run_underlying hdd, goInt, ofBytes_length]
    · obtain ⟨u, e, h⟩ := hr.inv1
      have ea := args_eq e
      rw [call_builtin hop hc, ea]
      cases str <;> first | (simp at ha'; done) | skip
      cases ha'
      cases h
      refine ⟨.int .i64 0, ?_, .int _ _⟩
      cases d <;> first | (simp at hd; done) | simp [builtin, Builtin.len_, e0, run_underlying hdd, goInt]
    · rename_i n _ _
      obtain ⟨u, e, h⟩ := hr.inv1
      have ea := args_eq e
      rw [call_builtin hop hc, ea]
      cases str <;> first | (simp at ha'; done) | skip
      cases ha'
      refine ⟨.int .i64 n, ?_, .int _ _⟩
      cases h <;> (cases d <;> first | (simp at hd; done) | simp [builtin, Builtin.len_, e0, run_underlying hdd, goInt])

theorem pure_lenM {vs : List AVal} {v : AVal} (hok : okK P o.op .lenM = true) (hr : VRels esz φ vs ((argsOf o.op).map ρ)) (ha : actK .lenM vs = .val v) : PureRes esz φ P ρ o v := by
  have ha' : aLenM vs = .val v := ha
  cases hop : o.op <;> rw [hop] at hok hr <;> first | (simp [okK] at hok; done) | skip
  rename_i c
  cases hc : c.callee <;> simp only [okK, hc] at hok <;> first | (cases hok; done) | skip
  rename_i b
  cases b <;> simp only [Bool.false_eq_true] at hok
  simp only [Bool.and_eq_true] at hok
  obtain ⟨hd, h0⟩ := hok
  rw [args_builtin hc] at hr
  have e0 := arg0 h0
  generalize hT : c.argTypes.getD 0 0 = T at *
  intro w
  cases hdd : P.underlying T with
  | none => simp [hdd] at hd
  | some d =>
    rw [hdd] at hd
    unfold aLenM at ha'
    split at ha' <;> first | (cases ha'; done) | skip
    · cases ha'
      obtain ⟨u, e, h⟩ := hr.inv1
      have ea := args_eq e
      rw [call_builtin hop hc, ea]
      cases h
      refine ⟨.int .i64 0, ?_, .int _ _⟩
      cases d <;> first | (simp at hd; done) | simp [builtin, Builtin.len_, e0, run_underlying hdd, goInt]

theorem pure_lenA {n : Nat} {vs : List AVal} {v : AVal} (hok : okK P o.op (.lenA n) = true) (hr : VRels esz φ vs ((argsOf o.op).map ρ)) (ha : actK (.lenA n) vs = .val v) : PureRes esz φ P ρ o v := by
  have ha' : aLenA n vs = .val v := ha
  cases hop : o.op <;> rw [hop] at hok hr <;> first | (simp [okK] at hok; done) | skip
  rename_i c
  cases hc : c.callee <;> simp only [okK, hc] at hok <;> first | (cases hok; done) | skip
  rename_i b
  cases b <;> simp only [Bool.false_eq_true] at hok
  simp only [Bool.and_eq_true] at hok
  obtain ⟨hd, h0⟩ := hok
  rw [args_builtin hc] at hr
  have e0 := arg0 h0
  generalize hT : c.argTypes.getD 0 0 = T at *
  intro w
  cases hdd : P.underlying T with
  | none => simp [hdd] at hd
  | some d =>
    rw [hdd] at hd
    unfold aLenA at ha'
    split at ha' <;> first | (cases ha'; done) | skip
    cases ha'
    obtain ⟨u, e, h⟩ := hr.inv1
    have ea := args_eq e
    rw [call_builtin hop hc, ea]
    refine ⟨.int .i64 n, ?_, .int _ _⟩
    cases d <;> first | (simp at hd; done) | skip
    · rename_i el
      cases hde : P.underlying el with
      | none => simp [hde] at hd
      | some de =>
        cases de <;> simp only [hde, Bool.false_eq_true, beqN] at hd
        subst hd
        cases u <;> simp [builtin, Builtin.len_, e0, run_underlying hdd, run_underlying hde, goInt]
    · simp only [beqN] at hd
      subst hd
      cases u <;> simp [builtin, Builtin.len_, e0, run_underlying hdd, goInt]

theorem pure_cap {vs : List AVal} {v : AVal} (hok : okK P o.op .cap = true) (hr : VRels esz φ vs ((argsOf o.op).map ρ)) (ha : actK .cap vs = .val v) : PureRes esz φ P ρ o v := by
  have ha' : aCap vs = .val v := ha
  cases hop : o.op <;> rw [hop] at hok hr <;> first | (simp [okK] at hok; done) | skip
  rename_i c
  cases hc : c.callee <;> simp only [okK, hc] at hok <;> first | (cases hok; done) | skip
  rename_i b
  cases b <;> simp only [Bool.false_eq_true] at hok
  simp only [Bool.and_eq_true] at hok
  obtain ⟨hd, h0⟩ := hok
  rw [args_builtin hc] at hr
  have e0 := arg0 h0
  generalize hT : c.argTypes.getD 0 0 = T at *
  intro w
  cases hdd : P.underlying T with
  | none => simp [hdd] at hd
  | some d =>
    rw [hdd] at hd
    unfold aCap at ha'
    split at ha' <;> first | (cases ha'; done) | skip
    · rename_i n
      cases ha'
      obtain ⟨u, e, h⟩ := hr.inv1
      have ea := args_eq e
      rw [call_builtin hop hc, ea]
      cases h with
      | slx _ _ _ hp =>
        refine ⟨.int .i64 n, ?_, .int _ _⟩
        cases d <;> first | (simp at hd; done) | simp [builtin, Builtin.cap_, e0, run_underlying hdd, goInt]
      | sli _ _ _ _ hp h0 => exact absurd rfl h0
      | sle _ _ h0 => exact absurd rfl h0
    · cases ha'
      obtain ⟨u, e, h⟩ := hr.inv1
      have ea := args_eq e
      rw [call_builtin hop hc, ea]
      cases h
      refine ⟨.int .i64 0, ?_, .int _ _⟩
      cases d <;> first | (simp at hd; done) | simp [builtin, Builtin.cap_, e0, run_underlying hdd, goInt]

theorem minI_run {k : IntKind} {w : World} : ∀ (r : List AVal) (us : List Value) (x : Int) (v : AVal), VRels esz φ r us → minI k x r = some v →
    ∃ u, (us.foldlM Builtin.min2 (.int k x)).run P w = .ok u w ∧ VRel esz φ v u := by
  intro r
  induction r with
  | nil => intro us x v h e; cases h; cases e; exact ⟨_, by simp, .int _ _⟩
  | cons y r ih =>
    intro us x v h e
    cases h with
    | cons h t =>
    unfold minI at e
    split at e <;> first | (cases e; done) | skip
    · rename_i heq; cases heq
    · rename_i x _ _ k' y' r' heq
      cases heq
      by_cases hk : eqKind k k' = true
      · rw [bif_true hk] at e
        cases h
        obtain ⟨u, a, b⟩ := ih _ _ _ t e
        refine ⟨u, ?_, b⟩
        rw [List.foldlM_cons, Sem.run_bind]
        have : (Builtin.min2 (.int k x) (.int k' y')).run P w = .ok (.int k (bif leInt x y' then x else y')) w := by
          simp only [Builtin.min2, Sem.run_pure]
          congr 2
          by_cases hl : leInt x y' = true
          · have := leInt_iff.1 hl
            rw [bif_true hl, if_neg (by omega)]
          · rw [bif_false (bool_false hl), if_pos (by rw [leInt_iff] at hl; omega)]
        rw [this]
        exact a
      · rw [bif_false (bool_false hk)] at e; cases e

theorem maxI_run {k : IntKind} {w : World} : ∀ (r : List AVal) (us : List Value) (x : Int) (v : AVal), VRels esz φ r us → maxI k x r = some v →
    ∃ u, (us.foldlM Builtin.max2 (.int k x)).run P w = .ok u w ∧ VRel esz φ v u := by
  intro r
  induction r with
  | nil => intro us x v h e; cases h; cases e; exact ⟨_, by simp, .int _ _⟩
  | cons y r ih =>
    intro us x v h e
    cases h with
    | cons h t =>
    unfold maxI at e
    split at e <;> first | (cases e; done) | skip
    · rename_i heq; cases heq
    · rename_i x _ _ k' y' r' heq
      cases heq
      by_cases hk : eqKind k k' = true
      · rw [bif_true hk] at e
        cases h
        obtain ⟨u, a, b⟩ := ih _ _ _ t e
        refine ⟨u, ?_, b⟩
        rw [List.foldlM_cons, Sem.run_bind]
        have : (Builtin.max2 (.int k x) (.int k' y')).run P w = .ok (.int k (bif leInt y' x then x else y')) w := by
          simp only [Builtin.max2, Sem.run_pure]
          congr 2
          by_cases hl : leInt y' x = true
          · have := leInt_iff.1 hl
            rw [bif_true hl, if_neg (by omega)]
          · rw [bif_false (bool_false hl), if_pos (by rw [leInt_iff] at hl; omega)]
        rw [this]
        exact a
      · rw [bif_false (bool_false hk)] at e; cases e

theorem pure_min {vs : List AVal} {v : AVal} (hok : okK P o.op .min = true) (hr : VRels esz φ vs ((argsOf o.op).map ρ)) (ha : actK .min vs = .val v) : PureRes esz φ P ρ o v := by
  have ha' : aMin vs = .val v := ha
  cases hop : o.op <;> rw [hop] at hok hr <;> first | (simp [okK] at hok; done) | skip
  rename_i c
  cases hc : c.callee <;> simp only [okK, hc] at hok <;> first | (cases hok; done) | skip
  rename_i b
  cases b <;> simp only [Bool.false_eq_true] at hok
  rw [args_builtin hc] at hr
  intro w
  unfold aMin at ha'
  split at ha' <;> first | (cases ha'; done) | skip
  rename_i kd x r
  cases hm : minI kd x r with
  | none => rw [hm] at ha'; cases ha'
  | some z =>
    rw [hm] at ha'; cases ha'
    generalize hL : c.args.toList.map ρ = L at hr
    cases hr with
    | cons h t =>
    cases h
    obtain ⟨u, a, b⟩ := minI_run (P := P) (w := w) _ _ _ _ t hm
    refine ⟨u, ?_, b⟩
    rw [call_builtin hop hc, args_eq hL]
    simp [builtin, Builtin.min_, a]

theorem pure_max {vs : List AVal} {v : AVal} (hok : okK P o.op .max = true) (hr : VRels esz φ vs ((argsOf o.op).map ρ)) (ha : actK .max vs = .val v) : PureRes esz φ P ρ o v := by
  have ha' : aMax vs = .val v := ha
  cases hop : o.op <;> rw [hop] at hok hr <;> first | (simp [okK] at hok; done) | skip
  rename_i c
  cases hc : c.callee <;> simp only [okK, hc] at hok <;> first | (cases hok; done) | skip
  rename_i b
  cases b <;> simp only [Bool.false_eq_true] at hok
  rw [args_builtin hc] at hr
  intro w
  unfold aMax at ha'
  split at ha' <;> first | (cases ha'; done) | skip
  rename_i kd x r
  cases hm : maxI kd x r with
  | none => rw [hm] at ha'; cases ha'
  | some z =>
    rw [hm] at ha'; cases ha'
    generalize hL : c.args.toList.map ρ = L at hr
    cases hr with
    | cons h t =>
    cases h
    obtain ⟨u, a, b⟩ := maxI_run (P := P) (w := w) _ _ _ _ t hm
    refine ⟨u, ?_, b⟩
    rw [call_builtin hop hc, args_eq hL]
    simp [builtin, Builtin.max_, a]

theorem unsSlD_nil (a : Array TypeId) (t : TypeId) (n c : Nat) : Builtin.unsafeSliceData_ a t #[.slice none n c] = pure (.pointer none) := rfl
theorem unsSlD_some (a : Array TypeId) (t : TypeId) (x : Addr) (n c : Nat) (h : c ≠ 0) : Builtin.unsafeSliceData_ a t #[.slice (some x) n c] = pure (.pointer (some x)) :=
  (show Builtin.unsafeSliceData_ a t #[.slice (some x) n c] = (if c ≠ 0 then pure (.pointer (some x)) else _) from rfl).trans (if_pos h)

theorem pure_unsSlD {vs : List AVal} {v : AVal} (hok : okK P o.op .unsSlD = true) (hr : VRels esz φ vs ((argsOf o.op).map ρ)) (ha : actK .unsSlD vs = .val v) : PureRes esz φ P ρ o v := by
  have ha' : aUnsSlD vs = .val v := ha
  cases hop : o.op <;> rw [hop] at hok hr <;> first | (simp [okK] at hok; done) | skip
  rename_i c
  cases hc : c.callee <;> simp only [okK, hc] at hok <;> first | (cases hok; done) | skip
  rename_i b
  cases b <;> simp only [Bool.false_eq_true] at hok
  rw [args_builtin hc] at hr
  intro w
  unfold aUnsSlD at ha'
  split at ha' <;> first | (cases ha'; done) | skip
  · cases ha'
    obtain ⟨u, e, h⟩ := hr.inv1
    cases h
    exact ⟨.pointer none, by rw [call_builtin hop hc, args_eq e]; simp [builtin, unsSlD_nil], .nilptr⟩
  · rename_i i o' n lo ez
    by_cases h0 : Nat.beq lo 0 = true
    · rw [bif_true h0] at ha'; cases ha'
    · rw [bif_false (bool_false h0)] at ha'; cases ha'
      rw [beqN] at h0
      obtain ⟨u, e, h⟩ := hr.inv1
      cases h with
      | slx _ _ _ hp =>
        exact ⟨.pointer _, by rw [call_builtin hop hc, args_eq e]; simp [builtin, unsSlD_some _ _ _ _ _ h0], .ptr _ hp⟩
      | sli _ _ _ cap hp h1 hz hcc hs =>
        have : cap ≠ 0 := by omega
        exact ⟨.pointer _, by rw [call_builtin hop hc, args_eq e]; simp [builtin, unsSlD_some _ _ _ _ _ this], .ptr _ hp⟩
      | sle => exact absurd rfl h0

theorem unsStr_zero (a : Array TypeId) (t T : TypeId) (h : a[0]? = some T) (p : Option Addr) (k : IntKind) (w : World) : (Builtin.unsafeString_ a t #[.pointer p, .int k 0]).run P w = .ok (.string .empty) w := by
  have e : Builtin.unsafeString_ a t #[.pointer p, .int k 0] = bind (asInt (.int k 0)) _ := rfl
  rw [e]
  cases p <;> simp [asInt, asIntOf, h, IntKind.max] <;> decide

theorem pure_unsStr {e' : TypeId} {vs : List AVal} {v : AVal} (hok : okK P o.op (.unsStr e') = true) (hr : VRels esz φ vs ((argsOf o.op).map ρ)) (ha : actK (.unsStr e') vs = .val v) : PureRes esz φ P ρ o v := by
  have ha' : aUnsStr e' vs = .val v := ha
  cases hop : o.op <;> rw [hop] at hok hr <;> first | (simp [okK] at hok; done) | skip
  rename_i c
  cases hc : c.callee <;> simp only [okK, hc] at hok <;> first | (cases hok; done) | skip
  rename_i b
  cases b <;> simp only [Bool.false_eq_true] at hok
  simp only [Bool.and_eq_true] at hok
  obtain ⟨hd, h0⟩ := hok
  rw [args_builtin hc] at hr
  have e0 := arg0 h0
  generalize hT : c.argTypes.getD 0 0 = T at *
  intro w
  unfold aUnsStr at ha'
  split at ha' <;> first | (cases ha'; done) | skip
  · rename_i i o' k n
    by_cases h0 : Nat.beq n 0 = true
    · rw [bif_true h0] at ha'; cases ha'
      rw [beqN] at h0; subst h0
      obtain ⟨u1, u2, e, h1, h2⟩ := hr.inv2
      cases h1 with
      | ptr _ hp =>
      cases h2
      refine ⟨.string .empty, ?_, .str ByteArray.empty⟩
      rw [call_builtin hop hc, args_eq e]
      simp only [builtin, Sem.run_bind]
      erw [unsStr_zero (P := P) _ o.type _ e0 _ k w]
      rfl
    · rw [bif_false (bool_false h0)] at ha'; cases ha'
  · rename_i k n
    by_cases h0 : Nat.beq n 0 = true
    · rw [bif_true h0] at ha'; cases ha'
      rw [beqN] at h0; subst h0
      obtain ⟨u1, u2, e, h1, h2⟩ := hr.inv2
      cases h1
      cases h2
      refine ⟨.string .empty, ?_, .str ByteArray.empty⟩
      rw [call_builtin hop hc, args_eq e]
      simp only [builtin, Sem.run_bind]
      erw [unsStr_zero (P := P) _ o.type _ e0 _ k w]
      rfl
    · rw [bif_false (bool_false h0)] at ha'; cases ha'
end
end Go.Am
