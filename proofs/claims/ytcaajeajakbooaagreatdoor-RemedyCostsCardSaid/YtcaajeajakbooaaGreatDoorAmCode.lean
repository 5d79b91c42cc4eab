/-
  Code and calls are run as by the model.
-/
import Derived.Test.YtcaajeajakbooaaGreatDoorAmLit
set_option linter.unusedVariables false
set_option linter.unusedSimpArgs false
namespace Go.Am
open Go

section
variable (P : Program) (gl np : Nat → Bool) (nt mask : Nat)
def chkC : Cd → Code → Bool
  | .skip, c => (match c with | .skip => true | .label _ => true | _ => false)
  | .seq a b, c => (match c with | .seq x y => chkC a x && chkC b y | _ => false)
  | .cond o a b, c => (match c with | .cond x y z => odL gl [] 0 x o && (chkC a y && chkC b z) | _ => false)
  | .block id a, c => (match c with | .block id' x => Nat.beq id id' && chkC a x | _ => false)
  | .loop a, c => (match c with | .loop x => chkC a x | _ => false)
  | .exit id, c => (match c with | .exit id' => Nat.beq id id' | _ => false)
  | .ret, c => (match c with | .ret => true | _ => false)
  | .reg l, c => isPan l || (match c with | .region _ ops d => (match d with | false => chkL P gl ops nt mask np ops.toList l [] 0 | true => false) | _ => false)
  | .dreg perm l, c => (match c with | .region _ ops d => (match d with | true => chkR P gl ops (befs ops.toList []) nt mask perm l || chkM P gl ops nt mask l | false => false) | _ => false)

def resIs (r : RV) (v : ResultVar) : Bool :=
  match r, v with
  | .tmp t, .tmp t' => Nat.beq t t'
  | .cell1 t, .cell a ty => Nat.beq t a && partIs P ty 0
  | .cellN t n, .cell a ty => Nat.beq t a && (!(Nat.beq n 0) && partIs P ty n)
  | _, _ => false
def lowBits (m : Nat) : Nat → Bool
  | 0 => true
  | n + 1 => Nat.testBit m n && lowBits m n
def fnIs (fn : Fn) (f : Func) : Bool :=
  lowBits fn.mask fn.np && ((match f.body with | some c => chkC P gl np f.ntmps fn.mask fn.body c | none => false) && (all2 (resIs P) fn.res f.results.toList && !(f.name == "runtime.NumGoroutine")))
end

section
variable {esz : TypeId → Nat} {gl np : Nat → Bool} {P : Program} {N nt mask : Nat}
variable {φ0 : Phi} {H0 : AHeap} {w0 : World} {φ : Phi} {H : AHeap} {env : Env} {a : Go.Act} {w : World}

def Post (P : Program) (esz : TypeId → Nat) (gl : Nat → Bool) (N nt mask : Nat) (φ0 : Phi) (H0 : AHeap) (w0 : World) (kn : EK) (ks : KS) : Exit → Go.Act → World → Prop
  | .normal, a, w => ∃ φ H env, EI P esz nt mask φ env a ∧ Sim esz φ (fun g => gl g = true) H w.heap ∧ Step N φ0 H0 w0 φ H w ∧ kn env H = true
  | .exit id, a, w => ∃ φ H env, EI P esz nt mask φ env a ∧ Sim esz φ (fun g => gl g = true) H w.heap ∧ Step N φ0 H0 w0 φ H w ∧ ks.kx id env H = true
  | .ret, a, w => ∃ φ H env, EI P esz nt mask φ env a ∧ Sim esz φ (fun g => gl g = true) H w.heap ∧ Step N φ0 H0 w0 φ H w ∧ ks.kr env H = true
  | _, _, _ => False

theorem EI.toLI (h : EI P esz nt mask φ env a) : LI P esz nt mask φ [] env 0 [] a := { h with len := rfl, src := fun t s hs => by cases hs }

theorem code_run (hesz : ∀ t, esz t = P.cellsOf t) (hmix : P.follows .mixedOrders = true) {call : CallT} {rc : AVal} {fuel : Nat} (hnp : ∀ g, np g = true → NopF P g) (hC : CallOK esz (fun g => gl g = true) P call) (hN : N ≤ H0.next) :
    ∀ (c : Cd) (code : Code), chkC P gl np nt mask c code = true → ∀ (kn : EK) (ks : KS), (∀ v env H, ks.kp v env H = false) → ∀ (φ : Phi) (H : AHeap) (env : Env) (a : Go.Act) (w : World),
      evC call rc fuel c env H kn ks = true → EI P esz nt mask φ env a → Sim esz φ (fun g => gl g = true) H w.heap → Step N φ0 H0 w0 φ H w → code.wp P (Post P esz gl N nt mask φ0 H0 w0 kn ks) a w := by
  intro c
  induction c with
  | skip =>
    intro code hc kn ks hkp φ H env a w h I S st
    unfold chkC at hc
    split at hc
    · exact wp_skip ⟨φ, H, env, I, S, st, h⟩
    · exact wp_label ⟨φ, H, env, I, S, st, h⟩
    · cases hc
  | seq x y ihx ihy =>
    intro code hc kn ks hkp φ H env a w h I S st
    unfold chkC at hc
    split at hc
    · rename_i cx cy
      rw [Bool.and_eq_true] at hc
      refine wp_seq (wp_mono (ihx cx hc.1 _ ks hkp φ H env a w h I S st) ?_)
      intro e a' w' hp
      cases e with
      | normal =>
        obtain ⟨φ', H', env', I', S', st', h'⟩ := hp
        exact ihy cy hc.2 kn ks hkp φ' H' env' a' w' h' I' S' st'
      | exit id => exact hp
      | ret => exact hp
      | goto l => exact hp
      | panic ch => exact hp
      | outgrown => exact hp
    · cases hc
  | cond o x y ihx ihy =>
    intro code hc kn ks hkp φ H env a w h I S st
    unfold chkC at hc
    split at hc
    · rename_i cc cx cy
      simp only [Bool.and_eq_true] at hc
      obtain ⟨h0, h1, h2⟩ := hc
      obtain ⟨v, e1, e2⟩ := opd_true (show opd o [] env _ = true from h)
      have hv := I.toLI.od S cc o h0 v e1
      cases v <;> simp only at e2 <;> first | (cases e2; done) | skip
      rename_i b
      generalize hu : a.eval cc = u at hv
      cases hv
      refine wp_cond (t := b) hu ?_
      cases b with
      | true => exact ihx cx h1 kn ks hkp φ H env a w e2 I S st
      | false => exact ihy cy h2 kn ks hkp φ H env a w e2 I S st
    · cases hc
  | block id x ih =>
    intro code hc kn ks hkp φ H env a w h I S st
    unfold chkC at hc
    split at hc
    · rename_i id' cx
      rw [Bool.and_eq_true, beqN] at hc
      obtain ⟨rfl, hc⟩ := hc
      refine wp_block (wp_mono (ih cx hc kn ⟨fun id' env H => bif Nat.beq id' id then kn env H else ks.kx id' env H, ks.kr, ks.kp⟩ hkp φ H env a w h I S st) ?_)
      intro e a' w' hp
      cases e with
      | normal => exact hp
      | exit id' =>
        obtain ⟨φ', H', env', I', S', st', h'⟩ := hp
        simp only [Exit.inBlock]
        change (bif Nat.beq id' id then kn env' H' else ks.kx id' env' H') = true at h'
        by_cases e : id' = id
        · rw [if_pos e]
          rw [bif_true (by rw [beqN]; exact e)] at h'
          exact ⟨φ', H', env', I', S', st', h'⟩
        · rw [if_neg e]
          rw [bif_false (bool_false (by rw [beqN]; exact e))] at h'
          exact ⟨φ', H', env', I', S', st', h'⟩
      | ret => exact hp
      | goto l => exact hp
      | panic ch => exact hp
      | outgrown => exact hp
    · cases hc
  | loop x ih =>
    intro code hc kn ks hkp φ H env a w h I S st
    unfold chkC at hc
    split at hc
    · rename_i cx
      refine wp_loop_rounds fuel ?_
      have key : ∀ (n : Nat) (φ : Phi) (H : AHeap) (env : Env) (a : Go.Act) (w : World),
          Nat.rec (motive := fun _ => EK) (fun _ _ => false) (fun _ self env H => evC call rc fuel x env H self ks) n env H = true → EI P esz nt mask φ env a → Sim esz φ (fun g => gl g = true) H w.heap → Step N φ0 H0 w0 φ H w →
          Code.rounds P cx (Post P esz gl N nt mask φ0 H0 w0 kn ks) n a w := by
        intro n
        induction n with
        | zero => intro φ H env a w h; cases h
        | succ n ihn =>
          intro φ H env a w h I S st
          rw [rounds_succ]
          refine wp_mono (ih cx hc _ ks hkp φ H env a w h I S st) ?_
          intro e a' w' hp
          cases e with
          | normal =>
            obtain ⟨φ', H', env', I', S', st', h'⟩ := hp
            exact ihn φ' H' env' a' w' h' I' S' st'
          | exit id => exact hp
          | ret => exact hp
          | goto l => exact hp
          | panic ch => exact hp
          | outgrown => exact hp
      exact key fuel φ H env a w h I S st
    · cases hc
  | exit id =>
    intro code hc kn ks hkp φ H env a w h I S st
    unfold chkC at hc
    split at hc
    · rw [beqN] at hc
      subst hc
      exact wp_exit ⟨φ, H, env, I, S, st, h⟩
    · cases hc
  | ret =>
    intro code hc kn ks hkp φ H env a w h I S st
    unfold chkC at hc
    split at hc
    · exact wp_ret ⟨φ, H, env, I, S, st, h⟩
    · cases hc
  | reg l =>
    intro code hc kn ks hkp φ H env a w h I S st
    unfold chkC at hc
    rw [Bool.or_eq_true] at hc
    rcases hc with hc | hc
    · exfalso
      unfold isPan at hc
      split at hc
      · rename_i x l
        obtain ⟨v, _, e⟩ := opd_true (show opd x [] env _ = true from h)
        try simp only at e
        split at e
        · rw [hkp] at e; cases e
        · cases e
      · cases hc
    · split at hc
      · rename_i id ops d
        split at hc
        · refine wp_region ?_
          rw [List.range_eq_range', ← Array.length_toList]
          refine lock_run (N := N) hesz hnp hC hkp ops.toList 0 l [] 0 φ [] env H a w (List.drop_zero) hc h I.toLI S (Nat.le_trans hN st.next) ?_
          intro φ' env' H' a' w' I' S' st' h'
          exact ⟨φ', H', env', I', S', st.trans st', h'⟩
        · cases hc
      · cases hc
  | dreg perm l =>
    intro code hc kn ks hkp φ H env a w h I S st
    unfold chkC at hc
    split at hc
    · rename_i id ops d
      split at hc
      · rw [Bool.or_eq_true] at hc
        rcases hc with hc | hc
        · exact drawn_wp hesz hmix (fun _ _ _ S _ => hC.here S) hkp hc h I S st hN (fun φ' env' a' w' H' I' S' st' _ h' => ⟨φ', H', env', I', S', st', h'⟩)
        · exact lit_wp hesz hmix hc h I S st hN (fun φ' env' a' w' H' I' S' st' h' => ⟨φ', H', env', I', S', st', h'⟩)
      · cases hc
    · cases hc

theorem lowBits_iff {m : Nat} : ∀ {n : Nat}, lowBits m n = true → ∀ t, t < n → Nat.testBit m t = true
  | 0, _, t, h => by omega
  | n + 1, h, t, ht => by
    simp only [lowBits, Bool.and_eq_true] at h
    by_cases e : t = n
    · subst e; exact h.1
    · exact lowBits_iff h.2 t (by omega)

theorem bindArgs_get : ∀ (l : List AVal) (i : Nat) (env : Env) (t : Nat), (bindArgs i l env).get t = if i ≤ t ∧ t < i + l.length then l[t - i]? else env.get t
  | [], i, env, t => by
    rw [if_neg (by simp)]; rfl
  | v :: l, i, env, t => by
    show (bindArgs (i + 1) l (env.set i v)).get t = _
    rw [bindArgs_get l (i + 1), Trie.get_set]
    simp only [List.length_cons]
    by_cases h1 : t = i
    · subst h1
      rw [if_neg (by omega), if_pos rfl, if_pos (by omega)]
      simp
    · by_cases h2 : i + 1 ≤ t ∧ t < i + 1 + l.length
      · rw [if_pos h2, if_pos (by omega)]
        obtain ⟨d, rfl⟩ : ∃ d, t = i + 1 + d := ⟨t - (i + 1), by omega⟩
        rw [show i + 1 + d - (i + 1) = d by omega, show i + 1 + d - i = d + 1 by omega]
        simp
      · rw [if_neg h2, if_neg h1, if_neg (by omega)]

noncomputable def resV (env : Env) (H : AHeap) (r : RV) : Option AVal :=
  match r with
  | .tmp t => env.get t
  | .cell1 t => (match env.get t with | some (.ptr i o) => H.cell i o | _ => none)
  | .cellN t n => (match env.get t with | some (.ptr i o) => (match H.cellsAt i o n with | some cs => some (.agg cs) | none => none) | _ => none)
theorem resA_cons {r : RV} {rs : List RV} {l : List AVal} (h : resA env H (r :: rs) = some l) : ∃ v l', resV env H r = some v ∧ resA env H rs = some l' ∧ l = v :: l' := by
  change (match resV env H r, resA env H rs with | some v, some l => some (v :: l) | _, _ => none) = some l at h
  cases h1 : resV env H r with
  | none => rw [h1] at h; cases h
  | some v =>
    cases h2 : resA env H rs with
    | none => rw [h1, h2] at h; cases h
    | some l' => rw [h1, h2] at h; cases h; exact ⟨v, l', rfl, rfl, rfl⟩

def resOne (tmps : Array Value) (r : ResultVar) : Sem Value :=
  match r with
  | .tmp t => pure (tmps.getD t undef)
  | .cell a t => do loadVar t (← asAddr (tmps.getD a undef))

theorem resOne_run {r : RV} {rv : ResultVar} {v : AVal} (h : resIs P r rv = true) (I : EI P esz nt mask φ env a) (S : Sim esz φ (fun g => gl g = true) H w.heap) (hv : resV env H r = some v) :
    ∃ u, (resOne a.tmps rv).run P w = .ok u w ∧ VRel esz φ v u := by
  cases r <;> cases rv <;> simp only [resIs] at h <;> first | (cases h; done) | skip
  · rename_i t t'
    rw [beqN] at h
    subst h
    exact ⟨_, rfl, (I.ev t v hv).2⟩
  · rename_i t t' ty
    rw [Bool.and_eq_true, beqN] at h
    obtain ⟨rfl, h⟩ := h
    simp only [resV] at hv
    split at hv
    · rename_i i o he
      have hp := (I.ev t _ he).2
      simp only [Act.eval] at hp
      generalize hu : a.tmps.getD t undef = u at hp
      cases hp with
      | ptr _ hp =>
        obtain ⟨v', hc, hv'⟩ := S.cell hv hp
        refine ⟨v', ?_, hv'⟩
        simp only [partIs] at h
        cases hd : P.underlying ty with
        | none => simp [hd] at h
        | some d =>
          cases d <;> first | (simp [hd] at h; done) | simp [resOne, hu, asAddr, loadVar, isAgg, run_underlying hd, hc]
    · cases hv
  · rename_i t n t' ty
    simp only [Bool.and_eq_true, beqN, Bool.not_eq_true'] at h
    obtain ⟨rfl, h0, h⟩ := h
    simp only [resV] at hv
    split at hv
    · rename_i i o he
      have hp := (I.ev t _ he).2
      simp only [Act.eval] at hp
      generalize hu : a.tmps.getD t undef = u at hp
      cases hc : H.cellsAt i o n with
      | none => rw [hc] at hv; cases hv
      | some cs =>
        rw [hc] at hv; cases hv
        cases hp with
        | ptr _ hp =>
          obtain ⟨us, h1, h2⟩ := S.loadCells (P := P) hc hp
          refine ⟨.agg us.toArray, ?_, .agg (by simpa using h2)⟩
          simp only [partIs] at h
          cases hd : P.underlying ty with
          | none => simp [hd] at h
          | some d =>
            have hz : n ≠ 0 := by intro e; subst e; simp at h0
            cases d <;> first | (simp [hd, hz] at h; done) | skip
            all_goals
              simp only [hd, Bool.and_eq_true] at h
              obtain ⟨_, _, _, _, hs⟩ := sizeIs_some h.1
              simp [resOne, hu, asAddr, loadVar, isAgg, run_underlying hd, hs, h1]
    · cases hv

theorem results_list (I : EI P esz nt mask φ env a) (S : Sim esz φ (fun g => gl g = true) H w.heap) : ∀ (rs : List RV) (vs : List ResultVar) (l : List AVal), all2 (resIs P) rs vs = true → resA env H rs = some l →
    ∃ us, (vs.mapM (resOne a.tmps)).run P w = .ok us w ∧ VRels esz φ l us
  | [], [], l, _, h => by cases h; exact ⟨[], rfl, .nil⟩
  | [], _ :: _, _, h, _ => by cases h
  | _ :: _, [], _, h, _ => by cases h
  | r :: rs, v :: vs, l, h, k => by
    simp only [all2, Bool.and_eq_true] at h
    obtain ⟨u, l', e1, e2, rfl⟩ := resA_cons k
    obtain ⟨x, h1, h2⟩ := resOne_run h.1 I S e1
    obtain ⟨xs, h3, h4⟩ := results_list I S rs vs l' h.2 e2
    exact ⟨x :: xs, by simp [List.mapM_cons, h1, h3], .cons h2 h4⟩

theorem results_run {f : Func} {rs : List RV} {l : List AVal} (I : EI P esz nt mask φ env a) (S : Sim esz φ (fun g => gl g = true) H w.heap) (h : all2 (resIs P) rs f.results.toList = true) (k : resA env H rs = some l) :
    ∃ u, (results f a.tmps).run P w = .ok u w ∧ VRel esz φ (tupA l) u := by
  obtain ⟨us, h1, h2⟩ := results_list I S rs _ l h k
  have e : results f a.tmps = (f.results.mapM (resOne a.tmps)) >>= fun vs => pure (if h : vs.size = 1 then vs[0] else .tuple vs) := rfl
  rw [e, Array.mapM_eq_mapM_toList]
  refine ⟨if h : us.toArray.size = 1 then us.toArray[0] else .tuple us.toArray, by simp [h1], ?_⟩
  cases h2 with
  | nil => exact .tup .nil
  | cons h2 t =>
    cases t with
    | nil => exact h2
    | cons h3 t => exact .tup (.cons h2 (.cons h3 t))

theorem leaves_nop {fn : Func} {tmps : Array Value} {R : Ending → World → Prop} : ∀ (ds : List Deferred) (w : World), (∀ d ∈ ds, NopD P d) →
    (∀ w', SameMem w w' → ∃ v, (results fn tmps).run P w' = .ok v w' ∧ R (.returned v) w') → Leaves P fn tmps R ds .returning w
  | [], w, _, h => h w (SameMem.refl w)
  | d :: ds, w, hd, h => by
    obtain ⟨f, cap, ht, ⟨fn', h1, h2, h3⟩, hC⟩ := hd d (List.mem_cons_self ..)
    refine ⟨by simp, .func f, cap, f, d.args ++ cap, ht, ?_, (hC _ w).mono ?_⟩
    · rw [ht]
      have := callFunc_run (w := w) h1 h2 h3 (d.args ++ cap)
      simpa [invoke] using this
    · rintro e u' w' ⟨⟨v, rfl⟩, rfl, e1, e2, e3, e4⟩
      refine leaves_nop ds w' (fun d hd' => hd d (List.mem_cons_of_mem _ hd')) ?_
      intro w2 hm
      exact h w2 ⟨hm.heap.trans e1, hm.os.trans e2, hm.tape.trans e3, hm.output.trans e4⟩

/-- the table of the AM's functions holds what the program has -/
def TabOk (P : Program) (gl np : Nat → Bool) (tab : Nat → Option Fn) : Prop := ∀ f fn, tab f = some fn → ∃ func, P.funcs[f]? = some func ∧ fnIs P gl np fn func = true

theorem callK_ok (hesz : ∀ t, esz t = P.cellsOf t) (hmix : P.follows .mixedOrders = true) {tab : Nat → Option Fn} (hnp : ∀ g, np g = true → NopF P g) (hT : TabOk P gl np tab) : ∀ n, CallOK esz (fun g => gl g = true) P (callK tab n) := by
  intro n
  induction n with
  | zero => intro f args H k kp _ h; cases h
  | succ n ih =>
    intro f args H k kp hkp h
    change (match tab f with | some fn => _ | none => false) = true at h
    cases hf : tab f with
    | none => rw [hf] at h; cases h
    | some fn =>
      rw [hf] at h
      simp only at h
      cases hle : Nat.ble args.length fn.np with
      | false => rw [hle] at h; cases h
      | true =>
      rw [hle] at h
      simp only [cond_true] at h
      rw [bleN] at hle
      obtain ⟨func, hfn, hok⟩ := hT f fn hf
      simp only [fnIs, Bool.and_eq_true, Bool.not_eq_true'] at hok
      obtain ⟨hlow, hbody, hres, hname⟩ := hok
      cases hb : func.body with
      | none => rw [hb] at hbody; cases hbody
      | some c =>
      rw [hb] at hbody
      simp only at hbody
      have hname' : func.name ≠ "runtime.NumGoroutine" := by simpa using hname
      refine ⟨⟨func, hfn, by simp [hb], hname'⟩, ?_⟩
      intro φ N w vs hr S hN
      have hlen : args.length = vs.size := by rw [hr.length]; simp
      have I : EI P esz func.ntmps fn.mask φ (bindArgs 0 args .nil) { tmps := vs ++ Array.replicate (func.ntmps - vs.size) undef, defers := [] } := by
        refine ⟨?_, by simp; omega, fun d hd => (by cases hd)⟩
        intro t v hv
        rw [bindArgs_get] at hv
        split at hv
        · rename_i ht
          have ht' : t < args.length := by omega
          refine ⟨lowBits_iff hlow t (by omega), ?_⟩
          obtain ⟨u, h1, h2⟩ := hr.get (by simpa using hv)
          have : Act.eval { tmps := vs ++ Array.replicate (func.ntmps - vs.size) undef, defers := [] } (.tmp t) = u := by
            simp only [Act.eval, Array.getD_eq_getD_getElem?]
            rw [Array.getElem?_append_left (by omega)]
            simp at h1
            simp [h1]
          rw [this]
          exact h2
        · rw [Trie.get_nil] at hv; cases hv
      have fin : ∀ (a' : Go.Act) (w' : World) (φ' : Phi) (H' : AHeap) (env' : Env), EI P esz func.ntmps fn.mask φ' env' a' → Sim esz φ' (fun g => gl g = true) H' w'.heap → Step N φ H w φ' H' w' → finish fn k env' H' = true →
          Leaves P func a'.tmps (fun e w' => match e with
            | .returned v' => ∃ v φ' H', VRel esz φ' v v' ∧ Sim esz φ' (fun g => gl g = true) H' w'.heap ∧ Step N φ H w φ' H' w' ∧ k v H' = true
            | _ => False) a'.defers .returning w' := by
        intro a' w' φ' H' env' I' S' st' h'
        refine leaves_nop _ _ I'.defs ?_
        intro w2 hm
        unfold finish at h'
        cases hl : resA env' H' fn.res with
        | none => rw [hl] at h'; cases h'
        | some l =>
          rw [hl] at h'
          have S2 : Sim esz φ' (fun g => gl g = true) H' w2.heap := by rw [hm.heap]; exact S'
          obtain ⟨u, h1, h2⟩ := results_run I' S2 hres hl
          exact ⟨u, h1, _, φ', H', h2, S2, st'.sameR hm, h'⟩
      refine calls_of_wp_defers hfn hb (wp_mono (code_run (N := N) hesz hmix hnp ih hN fn.body c hbody _ _ (fun v env H => hkp v H) φ H _ _ w h I S (Step.refl ..)) ?_)
      intro e a' w' hp
      cases e with
      | normal => obtain ⟨φ', H', env', I', S', st', h'⟩ := hp; exact fin a' w' φ' H' env' I' S' st' h'
      | exit id => obtain ⟨φ', H', env', I', S', st', h'⟩ := hp; cases h'
      | ret => obtain ⟨φ', H', env', I', S', st', h'⟩ := hp; exact fin a' w' φ' H' env' I' S' st' h'
      | goto l => exact hp.elim
      | panic ch => exact hp.elim
      | outgrown => exact hp.elim
end
end Go.Am
