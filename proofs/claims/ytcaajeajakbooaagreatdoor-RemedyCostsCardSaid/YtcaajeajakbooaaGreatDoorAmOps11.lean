/-
  Single operations of the abstract machine are those of the model, part 11.
-/
import Derived.Test.YtcaajeajakbooaaGreatDoorAmOps10
set_option linter.unusedVariables false
set_option linter.unusedSimpArgs false
namespace Go.Am
open Go

section
variable {esz : TypeId → Nat} {φ : Phi} {P : Program} {w : World} {ρ : Operand → Value} {o : Oper} {G : Nat → Prop} {H : AHeap}

theorem eqKind_comm (a b : IntKind) : eqKind a b = eqKind b a := by rw [Bool.eq_iff_iff, eqKind_iff, eqKind_iff]; exact eq_comm
theorem eqInt_comm (a b : Int) : eqInt a b = eqInt b a := by rw [Bool.eq_iff_iff, eqInt_iff, eqInt_iff]; exact eq_comm
theorem eqBool_comm (a b : Bool) : eqBool a b = eqBool b a := by rw [Bool.eq_iff_iff, eqBool_iff, eqBool_iff]; exact eq_comm
theorem eqStr_comm (a b : List Nat) : eqStr a b = eqStr b a := by rw [Bool.eq_iff_iff, eqStr_iff, eqStr_iff]; exact eq_comm

theorem keqL_symm : ∀ (a b : List AVal), keqL a b = keqL b a
  | [], [] => rfl
  | [], y :: ys => by cases y <;> rfl
  | x :: xs, [] => by cases x <;> rfl
  | x :: xs, y :: ys => by
    have ih := keqL_symm xs ys
    cases x <;> cases y <;> first | rfl | skip
    · simp only [keqL, eqBool_comm, ih]
    · rename_i k a k' b
      simp only [keqL, eqKind_comm k k', eqInt_comm a b, ih]
    · rename_i a b
      simp only [keqL, eqStr_comm a b, ih]

theorem keq_symm (a b : AVal) : keq a b = keq b a := by
  cases a <;> cases b <;> first | rfl | skip
  · simp only [keq, eqBool_comm]
  · rename_i k a k' b
    simp only [keq, eqKind_comm k k', eqInt_comm a b]
  · rename_i a b
    simp only [keq, eqStr_comm a b]
  · rename_i a b
    simp only [keq, keqL_symm a b]

theorem keqL_eq : ∀ (a b : List AVal), keqL a b = some true → a = b
  | [], [], _ => rfl
  | [], y :: ys, h => by simp [keqL] at h
  | x :: xs, [], h => by cases x <;> simp [keqL] at h
  | x :: xs, y :: ys, h => by
    obtain ⟨h1, h2, h3⟩ := keqL_cons h
    have := keqL_eq xs ys h3
    subst this
    unfold keq at h2
    split at h2 <;> first | (cases h2; done) | skip
    · simp only [Option.some.injEq] at h2; rw [eqBool_iff] at h2; subst h2; rfl
    · rename_i k a k' b
      by_cases hk : eqKind k k' = true
      · rw [bif_true hk] at h2; simp only [Option.some.injEq] at h2; rw [eqInt_iff] at h2; rw [eqKind_iff] at hk; subst h2; subst hk; rfl
      · rw [bif_false (bool_false hk)] at h2; cases h2
    · simp only [Option.some.injEq] at h2; rw [eqStr_iff] at h2; subst h2; rfl
    · exact absurd rfl (h1 _)

theorem keq_eq {a b : AVal} (h : keq a b = some true) : a = b := by
  unfold keq at h
  split at h <;> first | (cases h; done) | skip
  · simp only [Option.some.injEq] at h; rw [eqBool_iff] at h; subst h; rfl
  · rename_i k a k' b
    by_cases hk : eqKind k k' = true
    · rw [bif_true hk] at h; simp only [Option.some.injEq] at h; rw [eqInt_iff] at h; rw [eqKind_iff] at hk; subst h; subst hk; rfl
    · rw [bif_false (bool_false hk)] at h; cases h
  · simp only [Option.some.injEq] at h; rw [eqStr_iff] at h; subst h; rfl
  · rw [keqL_eq _ _ h]

/-- no two keys alike -/
def Dist (es : List (AVal × AVal × Nat)) : Prop := es.Pairwise fun x y => keq x.1 y.1 = some false

theorem distinctFrom_iff {k : AVal} : ∀ {es : List (AVal × AVal × Nat)}, distinctFrom k es = true → ∀ y ∈ es, keq k y.1 = some false
  | [], _, y, h => by cases h
  | (k', v, b) :: es, h, y, hy => by
    simp only [distinctFrom, Bool.and_eq_true] at h
    rcases List.mem_cons.1 hy with rfl | hy
    · have := h.1
      cases hq : keq k k' with
      | none => simp [hq] at this
      | some q => cases q <;> simp_all
    · exact distinctFrom_iff h.2 y hy
theorem distinct_iff : ∀ {es : List (AVal × AVal × Nat)}, distinct es = true → Dist es
  | [], _ => .nil
  | (k, v, b) :: es, h => by
    simp only [distinct, Bool.and_eq_true] at h
    exact .cons (distinctFrom_iff h.1) (distinct_iff h.2)

theorem Dist.perm {es fs : List (AVal × AVal × Nat)} (h : Dist es) (p : es.Perm fs) : Dist fs :=
  p.pairwise h (fun {x y} e => by rw [keq_symm]; exact e)

theorem All2.perm {α β : Type} {R : α → β → Prop} : ∀ {ys zs : List β}, ys.Perm zs → ∀ {xs : List α}, All2 R xs ys → ∃ xs2, xs.Perm xs2 ∧ All2 R xs2 zs := by
  intro ys zs p
  induction p with
  | nil => intro xs h; exact ⟨xs, .refl _, h⟩
  | cons y p ih =>
    intro xs h
    cases h with
    | cons h t => obtain ⟨xs2, p2, a2⟩ := ih t; exact ⟨_, p2.cons _, .cons h a2⟩
  | swap x y l =>
    intro xs h
    cases h with
    | cons h1 t => cases t with | cons h2 t => exact ⟨_, .swap _ _ _, .cons h2 (.cons h1 t)⟩
  | trans p q ih1 ih2 =>
    intro xs h
    obtain ⟨x2, p2, a2⟩ := ih1 h
    obtain ⟨x3, p3, a3⟩ := ih2 a2
    exact ⟨x3, p2.trans p3, a3⟩

theorem afind_none {a : AVal} : ∀ {es : List (AVal × AVal × Nat)} {i : Nat}, afind a es i = some none → ∀ x ∈ es, keq a x.1 = some false
  | [], i, _, x, hx => by cases hx
  | (k, v, b) :: es, i, h, x, hx => by
    unfold afind at h
    cases hq : keq a k with
    | none => rw [hq] at h; cases h
    | some q =>
      rw [hq] at h
      cases q
      · rcases List.mem_cons.1 hx with rfl | hx
        · exact hq
        · exact afind_none h x hx
      · cases h
theorem afind_none' {a : AVal} : ∀ {es : List (AVal × AVal × Nat)} {i : Nat}, (∀ x ∈ es, keq a x.1 = some false) → afind a es i = some none
  | [], i, _ => rfl
  | (k, v, b) :: es, i, h => by
    unfold afind
    rw [show keq a k = some false from h _ (List.mem_cons_self ..)]
    exact afind_none' fun x hx => h x (List.mem_cons_of_mem _ hx)
theorem afind_hit {a v : AVal} {b : Nat} (ha : keq a a = some true) : ∀ {es : List (AVal × AVal × Nat)} {i : Nat}, Dist es → (a, v, b) ∈ es → ∃ j, afind a es i = some (some (j, v, b))
  | [], i, _, h => by cases h
  | (k, v', b') :: es, i, hd, h => by
    cases hd with
    | cons h1 h2 =>
    rcases List.mem_cons.1 h with e | h
    · cases e
      unfold afind
      rw [ha]
      exact ⟨_, rfl⟩
    · have := h1 _ h
      simp only at this
      unfold afind
      rw [keq_symm, this]
      exact afind_hit ha h2 h

/-- a search does not care for the order -/
theorem afind_perm {a : AVal} {es fs : List (AVal × AVal × Nat)} {r : Option (Nat × AVal × Nat)} (hd : Dist es) (p : es.Perm fs) (h : afind a es 0 = some r) :
    ∃ r', afind a fs 0 = some r' ∧ r.map (·.2.1) = r'.map (·.2.1) := by
  cases r with
  | none => exact ⟨none, afind_none' fun x hx => afind_none h x (p.mem_iff.2 hx), rfl⟩
  | some r =>
    obtain ⟨j, v, b⟩ := r
    obtain ⟨_, k, h1, h2⟩ := afind_some es 0 j v b h
    have e := keq_eq h2
    subst e
    obtain ⟨j', h'⟩ := afind_hit (i := 0) h2 (hd.perm p) (p.mem_iff.1 (List.mem_of_getElem? h1))
    exact ⟨_, h', rfl⟩

/-- what the search finds, seen from both sides -/
def FV (esz : TypeId → Nat) (φ : Phi) (r : Option (Nat × AVal × Nat)) (q : Option (Nat × Value)) : Prop :=
  match r, q with
  | none, none => True
  | some (_, v, _), some (_, v') => VRel esz φ v v'
  | _, _ => False

/-- the search in the map as the memory has it -/
theorem find_map {a : AVal} {u : Value} {e : EqK} {t : TypeId} (hk : eqkIs P 8 e t = true) (hok : keyOk e a = true) (ha : VRel esz φ a u) (w : World) {es : List (AVal × AVal × Nat)} {clock clock' : Nat} {pm : Bool} {es' : Array MapEntry}
    {r : Option (Nat × AVal × Nat)} (hm : MRel esz φ es clock pm es' clock') (h : afind a es 0 = some r) :
    ∃ q, (Instr.findKey t u es'.toList).run P w = .ok q w ∧ FV esz φ r q := by
  have : ∃ fs r', All2 (ERel esz φ) fs es'.toList ∧ afind a fs 0 = some r' ∧ r.map (·.2.1) = r'.map (·.2.1) := by
    cases pm with
    | false => exact ⟨es, r, hm.2.imp fun _ _ e => e.toERel, h, rfl⟩
    | true =>
      obtain ⟨l, p, a2, d⟩ := hm
      obtain ⟨fs, p2, a3⟩ := a2.perm p
      obtain ⟨r', h1, h2⟩ := afind_perm (distinct_iff d) p2 h
      exact ⟨fs, r', a3, h1, h2⟩
  obtain ⟨fs, r', a2, h1, h2⟩ := this
  obtain ⟨q, q1, q2⟩ := findKey_rel hk hok ha w a2 h1
  refine ⟨q, q1, ?_⟩
  cases r with
  | none =>
    cases r' with
    | none => cases q with | none => trivial | some q => simp [FR] at q2
    | some r' => simp at h2
  | some r =>
    cases r' with
    | none => simp at h2
    | some r' =>
      cases q with
      | none => simp [FR] at q2
      | some q =>
        obtain ⟨j, v, b⟩ := r
        obtain ⟨j', v', b'⟩ := r'
        obtain ⟨j2, v2⟩ := q
        simp only [Option.map_some, Option.some.injEq] at h2
        subst h2
        obtain ⟨e1, e2, x, e3, e4⟩ := q2
        obtain ⟨_, k, g1, g2⟩ := afind_some fs 0 j' v b' h1
        rw [Nat.sub_zero] at g1 e3
        have := a2.get g1 e3
        subst e4
        exact this.val

theorem look_run {kt el t : TypeId} {e : EqK} {z a : AVal} {zv u m : Value} {ok : Bool} {es' : Array MapEntry} {r : Option (Nat × AVal × Nat)} {q : Option (Nat × Value)} {v : AVal}
    (hd : P.underlying t = some (.map kt el)) (hk : eqkIs P 8 e kt = true) (hna : noArr P kt = true) (hok : keyOk e a = true) (ha : VRel esz φ a u) (z1 : ∀ w, (zeroValue el).run P w = .ok zv w) (z2 : VRel esz φ z zv) (w : World)
    (hm : (m = .map none ∧ es' = #[]) ∨ ∃ r clock, m = .map (some r) ∧ w.heap[r]? = some (.map es' clock))
    (hf : (Instr.findKey kt u es'.toList).run P w = .ok q w) (hq : FV esz φ r q)
    (hv : lookRes z ok (some r) = some v) : ∃ v', (Instr.lookup t m u ok).run P w = .ok v' w ∧ VRel esz φ v v' := by
  have hc := check_key (b := es'.isEmpty) (d := 6) hk hna hok ha w 9998
  have fin : ∃ v', (match q with
      | some (_, v) => (.ok (if ok = true then .tuple #[v, .bool true] else v) w : Result Value)
      | none => .ok (if ok = true then .tuple #[zv, .bool false] else zv) w) = .ok v' w ∧ VRel esz φ v v' := by
    cases r with
    | none =>
      cases q with
      | some q => exact absurd hq id
      | none =>
        cases ok <;> (simp only [lookRes, cond_true, cond_false, Option.some.injEq] at hv; subst hv)
        · exact ⟨zv, by simp, z2⟩
        · exact ⟨.tuple #[zv, .bool false], by simp, .tup (.cons z2 (.cons (.bool _) .nil))⟩
    | some r =>
      cases q with
      | none => exact absurd hq id
      | some q =>
        obtain ⟨j, v1, b⟩ := r
        obtain ⟨j2, v2⟩ := q
        have hq : VRel esz φ v1 v2 := hq
        cases ok <;> (simp only [lookRes, cond_true, cond_false, Option.some.injEq] at hv; subst hv)
        · exact ⟨v2, by simp, hq⟩
        · exact ⟨.tuple #[v2, .bool true], by simp, .tup (.cons hq (.cons (.bool _) .nil))⟩
  obtain ⟨v', f1, f2⟩ := fin
  refine ⟨v', ?_, f2⟩
  rw [← f1]
  unfold Instr.lookup
  simp only [Sem.run_bind, run_underlying hd, Result.andThen_ok]
  rcases hm with ⟨rfl, rfl⟩ | ⟨r', clock, rfl, hg⟩
  · cases q with
    | none => simp at hc hf; simp [hc, hf, z1]
    | some q => simp at hc hf; simp [hc, hf]
  · cases q with
    | none => simp [MapKept.run_getObj_map hg, hc, hf, z1]
    | some q => simp [MapKept.run_getObj_map hg, hc, hf]

theorem okLook {e : EqK} {z : AVal} {ok : Bool} (hok : okK P o.op (.look e z ok) = true) : ∃ t m u kt el, o.op = .lookup t m u ok ∧ P.underlying t = some (.map kt el) ∧ eqkIs P 8 e kt = true ∧ noArr P kt = true ∧ zeroVIs P el z = true := by
  cases hop : o.op <;> rw [hop] at hok <;> first | (simp [okK] at hok; done) | skip
  rename_i t m u ok'
  simp only [okK, Bool.and_eq_true, eqBool_iff] at hok
  obtain ⟨rfl, hd⟩ := hok
  cases hdd : P.underlying t with
  | none => simp [hdd] at hd
  | some d =>
    cases d <;> first | (simp [hdd] at hd; done) | skip
    rename_i kt el
    simp only [hdd, Bool.and_eq_true] at hd
    exact ⟨t, m, u, kt, el, rfl, hdd, hd.1.1, hd.1.2, hd.2⟩

theorem pure_look {e : EqK} {z : AVal} {ok : Bool} {vs : List AVal} {v : AVal} (hok : okK P o.op (.look e z ok) = true) (hr : VRels esz φ vs ((argsOf o.op).map ρ)) (ha : actK (.look e z ok) vs = .val v) : PureRes esz φ P ρ o v := by
  have ha' : aLook e z ok vs = .val v := ha
  obtain ⟨t, m, u, kt, el, hop, hd, hk, hna, hz⟩ := okLook hok
  rw [hop] at hr
  obtain ⟨zv, z1, z2⟩ := zeroVIs_some (esz := esz) (φ := φ) hz
  unfold aLook at ha'
  split at ha' <;> first | (cases ha'; done) | skip
  · rename_i key
    by_cases hb : keyOk e key = true
    · rw [bif_true hb] at ha'
      cases hl : lookRes z ok (some none) with
      | none => simp [lookRes] at hl
      | some v' =>
        rw [hl] at ha'; cases ha'
        obtain ⟨u1, u2, e1, h1, h2⟩ := hr.inv2
        simp only [argsOf, List.map_cons, List.map_nil, List.cons.injEq, and_true] at e1
        obtain ⟨rfl, rfl⟩ := e1
        intro w
        have hm : ρ m = .map none := by cases hx : ρ m <;> rw [hx] at h1 <;> first | (cases h1; done) | skip; cases h1; rfl
        obtain ⟨q, q1, q2⟩ := findKey_rel (es := []) (l := []) hk hb h2 w .nil rfl
        obtain ⟨v', g1, g2⟩ := look_run (m := ρ m) (r := none) (q := q) (es' := #[]) hd hk hna hb h2 z1 z2 w (.inl ⟨hm, rfl⟩) (by simpa using q1) (by cases q with | none => trivial | some q => simp [FR] at q2) hl
        exact ⟨v', by simp [execOp, hop, g1], g2⟩
    · rw [bif_false (bool_false hb)] at ha'; cases ha'
  · rename_i i key
    by_cases hb : keyOk e key = true
    · rw [bif_true hb] at ha'; cases ha'
    · rw [bif_false (bool_false hb)] at ha'; cases ha'

theorem rd_look {e : EqK} {z : AVal} {ok : Bool} {vs : List AVal} {v : AVal} {f : AHeap → Option AVal} (hok : okK P o.op (.look e z ok) = true) (hr : VRels esz φ vs ((argsOf o.op).map ρ)) (ha : actK (.look e z ok) vs = .rd f) (hf : f H = some v)
    (S : Sim esz φ G H w.heap) : RdRes esz φ P ρ o w v := by
  have ha' : aLook e z ok vs = .rd f := ha
  obtain ⟨t, m, u, kt, el, hop, hd, hk, hna, hz⟩ := okLook hok
  rw [hop] at hr
  obtain ⟨zv, z1, z2⟩ := zeroVIs_some (esz := esz) (φ := φ) hz
  unfold aLook at ha'
  split at ha' <;> first | (cases ha'; done) | skip
  · rename_i key
    by_cases hb : keyOk e key = true
    · rw [bif_true hb] at ha'; simp [lookRes, someVal] at ha'
    · rw [bif_false (bool_false hb)] at ha'; cases ha'
  · rename_i i key
    by_cases hb : keyOk e key = true
    · rw [bif_true hb] at ha'; cases ha'
      unfold rLook at hf
      split at hf <;> first | (cases hf; done) | skip
      rename_i es clock pm ho
      obtain ⟨u1, u2, e1, h1, h2⟩ := hr.inv2
      simp only [argsOf, List.map_cons, List.map_nil, List.cons.injEq, and_true] at e1
      obtain ⟨rfl, rfl⟩ := e1
      cases hx : ρ m <;> rw [hx] at h1 <;> first | (cases h1; done) | skip
      cases h1 with
      | @map _ p hp =>
      obtain ⟨es', clock', g1, g2⟩ := S.obj i _ p ho hp trivial
      cases hq : afind key es 0 with
      | none => rw [hq] at hf; simp [lookRes] at hf
      | some r =>
        rw [hq] at hf
        obtain ⟨q, q1, q2⟩ := find_map hk hb h2 w g2 hq
        obtain ⟨v', k1, k2⟩ := look_run (m := ρ m) hd hk hna hb h2 z1 z2 w (.inr ⟨p.blk, clock', hx, g1⟩) q1 q2 hf
        exact ⟨v', by simp [execOp, hop, k1], k2⟩
    · rw [bif_false (bool_false hb)] at ha'; cases ha'
end
end Go.Am
