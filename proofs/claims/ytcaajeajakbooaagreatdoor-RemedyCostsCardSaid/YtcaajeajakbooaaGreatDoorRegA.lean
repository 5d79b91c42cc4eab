/-
  The law's last statement, whose order is drawn, by the abstract machine.
-/
import Derived.Test.YtcaajeajakbooaaGreatDoorAmCode
import Derived.Test.YtcaajeajakbooaaGreatDoorOkD
import Derived.KernelRfl
import Derived.Below
set_option linter.unusedVariables false
set_option linter.unusedSimpArgs false
namespace Go.Am
open Go Go.Proofs Go.RowKit

section
variable {esz : TypeId → Nat} {G : Nat → Prop} {φ : Phi} {H : AHeap} {w w' : World}
theorem Sim.below (S : Sim esz φ G H w.heap) (hb : Below w.heap.size w w') : Sim esz φ G H w'.heap where
  obj := fun i o p ho hp hl => (S.obj i o p ho hp hl).mono (.refl φ) (hb.block _ (S.bnd _ _ hp)) (fun _ _ h => h)
  disj := S.disj
  tip := S.tip
  solo := S.solo
  gl := S.gl
  vle := S.vle
  bnd := fun i p h => Nat.lt_of_lt_of_le (S.bnd i p h) hb.size
  lt := S.lt
  base := S.base
  grpφ := S.grpφ
  fresh := S.fresh
  glob := S.glob
theorem Step.below {N : Nat} (hb : Below w.heap.size w w') : Step N φ H w φ H w' :=
  ⟨.refl φ, fun _ _ h => ⟨h, rfl, rfl⟩, Nat.le_refl _, hb.os, hb.tape, hb.output, hb.size, fun r hr hi => ⟨hb.block r hr, hi⟩⟩
end

section
variable {call : CallT} {rc : AVal} {kp : AVal → EK} {kn : EK} {L : List AVal} {env : Env} {H : AHeap}
theorem run_val {k : K} {os : List Opd} {vs : List AVal} {v : AVal} {l : List Ins} (ho : ∀ kk, opds os L env kk = kk vs) (ha : actK k vs = .val v) :
    runIns call rc kp (.op k os :: l) L env H kn = runIns call rc kp l (v :: L) env H kn := by
  show opds os L env (fun vs => nAct L env H (fun L env H => runIns call rc kp l L env H kn) (actK k vs)) = _
  rw [ho, ha]; rfl
theorem run_gd {g : Opd} {i : Ins} {l : List Ins} (hg : ∀ kk, opd g L env kk = kk (.bool true)) : runIns call rc kp (.gd g true i :: l) L env H kn = runIns call rc kp (i :: l) L env H kn := by
  show opd g L env _ = _
  rw [hg]; rfl
theorem run_call {f : FuncId} {os : List Opd} {vs : List AVal} {l : List Ins} (ho : ∀ kk, opds os L env kk = kk vs) :
    runIns call rc kp (.callF f os :: l) L env H kn = call f vs H (fun v H => runIns call rc kp l (v :: L) env H kn) (fun v H => kp v env H) := by
  show opds os L env _ = _
  rw [ho]; rfl
end

def perm6 : List Nat := [0, 2, 1, 3, 4, 5, 6, 8, 9, 10, 12, 13, 14, 7, 11, 15, 16, 17, 18, 19]
def l6 : List Ins := [.op .mov [.slot 0], .op .mov [.slot 0], .callF 5 [.loc 1], .callF 6 [.loc 1], .op (.bin .eql .i) [.loc 1, .loc 0], .op .mov [.loc 0], .gd (.loc 0) true (.op .mov [.slot 0]), .gd (.loc 1) true (.op .mov [.slot 0]), .gd (.loc 2) true (.op .mov [.slot 5]), .gd (.loc 3) true (.op (.slE 4 false true false) [.loc 1, .loc 0]), .gd (.loc 4) true (.op .mov [.slot 0]), .gd (.loc 5) true (.op .mov [.slot 5]), .gd (.loc 6) true (.op (.slE 4 true false false) [.loc 1, .loc 0]), .gd (.loc 7) true (.callF 5 [.loc 6]), .gd (.loc 8) true (.callF 5 [.loc 4]), .gd (.loc 9) true (.callF 5 [.loc 2]), .gd (.loc 10) true (.op (.bin .add .b) [.loc 1, .loc 0]), .gd (.loc 11) true (.op (.bin .eql .i) [.loc 3, .loc 0]), .op .pick [.loc 12, .loc 0, .lit (.bool false)], .op .mov [.loc 0], .keep 4]

theorem act_eq (X : Int) : actK (.bin .eql .i) [.int .i64 X, .int .i64 X] = .val (.bool true) := by
  show someVal (some (.bool (eqInt X X))) = _
  rw [eqInt_iff.2 rfl]; rfl

open Classical in
noncomputable def call6 (A Ak Ar : AVal) (X Xk Xr : Int) : CallT := fun f args H kc _ =>
  if f = 5 ∧ args = [A] then kc (.int .i64 X) H
  else if f = 6 ∧ args = [A] then kc (.int .i64 X) H
  else if f = 5 ∧ args = [Ak] then kc (.int .i64 Xk) H
  else if f = 5 ∧ args = [Ar] then kc (.int .i64 Xr) H
  else false

noncomputable def env6 (A : AVal) (k : Nat) : Env := (Trie.nil.set 0 A).set 5 (.int .i64 (.ofNat k))
noncomputable def kn6 (env : Env) (_ : AHeap) : Bool := match env.get 4 with | some (.bool b) => b | _ => false

theorem run6 {A Ak Ar : AVal} {X Xk Xr : Int} {k : Nat} {H : AHeap} {kp : AVal → EK} (hk : actK (.slE 4 false true false) [A, .int .i64 (.ofNat k)] = .val Ak) (hr : actK (.slE 4 true false false) [A, .int .i64 (.ofNat k)] = .val Ar)
    (hs : awrap .i64 (Int.add Xk Xr) = X) (ek : A = Ak → Xk = X) (er : A = Ar → Xr = X) (ekr : Ak = Ar → Xr = Xk) :
    runIns (call6 A Ak Ar X Xk Xr) .niliface kp l6 [] (env6 A k) H kn6 = true := by
  have c5 : ∀ H kc kp, call6 A Ak Ar X Xk Xr 5 [A] H kc kp = kc (.int .i64 X) H := fun H kc kp => by simp [call6]
  have c6 : ∀ H kc kp, call6 A Ak Ar X Xk Xr 6 [A] H kc kp = kc (.int .i64 X) H := fun H kc kp => by simp [call6]
  have ck : ∀ H kc kp, call6 A Ak Ar X Xk Xr 5 [Ak] H kc kp = kc (.int .i64 Xk) H := fun H kc kp => by
    by_cases h : Ak = A
    · simp [call6, h, ek h.symm]
    · simp [call6, h]
  have cr : ∀ H kc kp, call6 A Ak Ar X Xk Xr 5 [Ar] H kc kp = kc (.int .i64 Xr) H := fun H kc kp => by
    by_cases h : Ar = A
    · simp [call6, h, er h.symm]
    · by_cases h2 : Ar = Ak
      · subst h2
        have e := ekr rfl
        simp [call6, h, e]
      · simp [call6, h, h2]
  unfold l6
  rw [run_val (vs := [A]) (v := A) (fun _ => rfl) rfl, run_val (vs := [A]) (v := A) (fun _ => rfl) rfl, run_call (vs := [A]) (fun _ => rfl), c5, run_call (vs := [A]) (fun _ => rfl), c6,
    run_val (vs := [.int .i64 X, .int .i64 X]) (fun _ => rfl) (act_eq X), run_val (vs := [.bool true]) (v := .bool true) (fun _ => rfl) rfl,
    run_gd (fun _ => rfl), run_val (vs := [A]) (v := A) (fun _ => rfl) rfl,
    run_gd (fun _ => rfl), run_val (vs := [A]) (v := A) (fun _ => rfl) rfl,
    run_gd (fun _ => rfl), run_val (vs := [.int .i64 (.ofNat k)]) (v := .int .i64 (.ofNat k)) (fun _ => rfl) rfl,
    run_gd (fun _ => rfl), run_val (vs := [A, .int .i64 (.ofNat k)]) (fun _ => rfl) hk,
    run_gd (fun _ => rfl), run_val (vs := [A]) (v := A) (fun _ => rfl) rfl,
    run_gd (fun _ => rfl), run_val (vs := [.int .i64 (.ofNat k)]) (v := .int .i64 (.ofNat k)) (fun _ => rfl) rfl,
    run_gd (fun _ => rfl), run_val (vs := [A, .int .i64 (.ofNat k)]) (fun _ => rfl) hr,
    run_gd (fun _ => rfl), run_call (vs := [A]) (fun _ => rfl), c5,
    run_gd (fun _ => rfl), run_call (vs := [Ak]) (fun _ => rfl), ck,
    run_gd (fun _ => rfl), run_call (vs := [Ar]) (fun _ => rfl), cr,
    run_gd (fun _ => rfl), run_val (vs := [.int .i64 Xk, .int .i64 Xr]) (v := .int .i64 X) (fun _ => rfl) (by show someVal (some (.int .i64 (awrap .i64 (Int.add Xk Xr)))) = _; rw [hs]; rfl),
    run_gd (fun _ => rfl), run_val (vs := [.int .i64 X, .int .i64 X]) (fun _ => rfl) (act_eq X),
    run_val (vs := [.bool true, .bool true, .bool false]) (v := .bool true) (fun _ => rfl) rfl, run_val (vs := [.bool true]) (v := .bool true) (fun _ => rfl) rfl]
  show kn6 ((env6 A k).set 4 (.bool true)) H = true
  unfold kn6
  rw [Trie.get_set]
  rfl

theorem reg6 {ops : Array Oper} {id : Nat} {a : Go.Act} {w : World} {Q : Exit → Go.Act → World → Prop} {A Ak Ar : AVal} {X Xk Xr : Int} {k : Nat} {φ : Phi}
    (hchk : chkR Tryz.prog gl0 ops (befs ops.toList []) 36 49 perm6 l6 = true) (hmix : Tryz.prog.follows .mixedOrders = true)
    (hk : actK (.slE 4 false true false) [A, .int .i64 (.ofNat k)] = .val Ak) (hr : actK (.slE 4 true false false) [A, .int .i64 (.ofNat k)] = .val Ar)
    (hs : awrap .i64 (Int.add Xk Xr) = X) (ek : A = Ak → Xk = X) (er : A = Ar → Xr = X) (ekr : Ak = Ar → Xr = Xk)
    (S : Sim (fun t => Tryz.prog.cellsOf t) φ (fun g => gl0 g = true) ⟨20, .nil, .nil⟩ w.heap)
    (hA : VRel (fun t => Tryz.prog.cellsOf t) φ A (a.eval (.tmp 0))) (hka : a.eval (.tmp 5) = .int .i64 (.ofNat k)) (hsz : 36 ≤ a.tmps.size) (hdf : a.defers = [])
    (hC : ∀ φ' w', Ext φ φ' → (∀ r, r < w.heap.size → w'.heap[r]? = w.heap[r]?) → w.heap.size ≤ w'.heap.size →
      (∀ u, VRel (fun t => Tryz.prog.cellsOf t) φ' A u → Calls Tryz.prog 5 #[u] w' fun e w2 => e = .returned (.int .i64 X) ∧ Below w'.heap.size w' w2) ∧
      (∀ u, VRel (fun t => Tryz.prog.cellsOf t) φ' A u → Calls Tryz.prog 6 #[u] w' fun e w2 => e = .returned (.int .i64 X) ∧ Below w'.heap.size w' w2) ∧
      (∀ u, VRel (fun t => Tryz.prog.cellsOf t) φ' Ak u → Calls Tryz.prog 5 #[u] w' fun e w2 => e = .returned (.int .i64 Xk) ∧ Below w'.heap.size w' w2) ∧
      (∀ u, VRel (fun t => Tryz.prog.cellsOf t) φ' Ar u → Calls Tryz.prog 5 #[u] w' fun e w2 => e = .returned (.int .i64 Xr) ∧ Below w'.heap.size w' w2))
    (hQ : ∀ a' w', a'.eval (.tmp 4) = .bool true → a'.defers = [] → Below w.heap.size w w' → Q .normal a' w') :
    (Code.region id ops true).wp Tryz.prog Q a w := by
  have I : EI Tryz.prog (fun t => Tryz.prog.cellsOf t) 36 49 φ (env6 A k) a := by
    refine ⟨?_, hsz, by rw [hdf]; intro d hd; cases hd⟩
    intro t v hv
    rcases env_set hv with ⟨rfl, rfl⟩ | ⟨_, hv⟩
    · refine ⟨by decide, ?_⟩
      rw [hka]; exact .int _ _
    · rcases env_set hv with ⟨rfl, rfl⟩ | ⟨_, hv⟩
      · exact ⟨by decide, hA⟩
      · rw [Trie.get_nil] at hv; cases hv
  refine drawn_wp (N := 0) (φ0 := φ) (H0 := ⟨20, .nil, .nil⟩) (w0 := w) (fun _ => rfl) hmix (call := call6 A Ak Ar X Xk Xr) (rc := .niliface) (kp := fun _ _ _ => false) (kn := kn6) ?_ (fun _ _ _ => rfl) hchk (run6 hk hr hs ek er ekr) I S (Step.refl ..) (Nat.zero_le _) ?_
  · intro φ' H' w' S' st
    have hblk : ∀ r, r < w.heap.size → w'.heap[r]? = w.heap[r]? := fun r hr => (st.heap r hr fun ⟨i, o, p, ho, _⟩ => by rw [show (⟨20, .nil, .nil⟩ : AHeap).objs.get i = none from Trie.get_nil i] at ho; cases ho).1
    obtain ⟨h1, h2, h3, h4⟩ := hC φ' w' st.ext hblk st.size
    have one : ∀ {B : AVal} {Y : Int} {f : Nat} {kc : Cont}, (∀ u, VRel (fun t => Tryz.prog.cellsOf t) φ' B u → Calls Tryz.prog f #[u] w' fun e w2 => e = .returned (.int .i64 Y) ∧ Below w'.heap.size w' w2) → kc (.int .i64 Y) H' = true →
        ∀ N (vs : Array Value), VRels (fun t => Tryz.prog.cellsOf t) φ' [B] vs.toList → N ≤ H'.next →
          Calls Tryz.prog f vs w' fun e w2 => match e with
            | .returned v' => ∃ v φ2 H2, VRel (fun t => Tryz.prog.cellsOf t) φ2 v v' ∧ Sim (fun t => Tryz.prog.cellsOf t) φ2 (fun g => gl0 g = true) H2 w2.heap ∧ Step N φ' H' w' φ2 H2 w2 ∧ kc v H2 = true
            | _ => False := by
      intro B Y f kc hc hk N vs hv hN
      obtain ⟨u, e1, hu⟩ := hv.inv1
      have : vs = #[u] := by apply Array.ext'; simpa using e1
      subst this
      refine (hc u hu).mono ?_
      rintro e w2 ⟨rfl, hb⟩
      exact ⟨.int .i64 Y, φ', H', .int _ _, S'.below hb, Step.below hb, hk⟩
    have f5 : ∃ fn, Tryz.prog.funcs[5]? = some fn ∧ fn.body.isSome = true ∧ fn.name ≠ "runtime.NumGoroutine" := ⟨Tryz.f5, Tryz.func5, by kernel_rfl, by decide⟩
    have f6 : ∃ fn, Tryz.prog.funcs[6]? = some fn ∧ fn.body.isSome = true ∧ fn.name ≠ "runtime.NumGoroutine" := ⟨Tryz.f6, Tryz.func6, by kernel_rfl, by decide⟩
    intro f args kc kp _ hcall
    unfold call6 at hcall
    split at hcall
    · rename_i h; obtain ⟨rfl, rfl⟩ := h; exact ⟨f5, one h1 hcall⟩
    · split at hcall
      · rename_i h; obtain ⟨rfl, rfl⟩ := h; exact ⟨f6, one h2 hcall⟩
      · split at hcall
        · rename_i h; obtain ⟨rfl, rfl⟩ := h; exact ⟨f5, one h3 hcall⟩
        · split at hcall
          · rename_i h; obtain ⟨rfl, rfl⟩ := h; exact ⟨f5, one h4 hcall⟩
          · cases hcall
  · intro φ' env' a' w' H' I' S' st' hdfs hkn
    have hblk : ∀ r, r < w.heap.size → w'.heap[r]? = w.heap[r]? := fun r hr => (st'.heap r hr fun ⟨i, o, p, ho, _⟩ => by rw [show (⟨20, .nil, .nil⟩ : AHeap).objs.get i = none from Trie.get_nil i] at ho; cases ho).1
    unfold kn6 at hkn
    split at hkn
    · rename_i b hg
      subst hkn
      have hv := (I'.ev 4 _ hg).2
      generalize hu : a'.eval (.tmp 4) = u at hv
      cases hv
      exact hQ a' w' hu (hdfs.trans hdf) ⟨st'.os, st'.tape, st'.output, st'.size, hblk⟩
    · cases hkn
end Go.Am
