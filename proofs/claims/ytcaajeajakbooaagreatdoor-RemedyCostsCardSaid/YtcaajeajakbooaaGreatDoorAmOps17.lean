/-
  Append and the operations on bytes are those of the model.
-/
import Derived.Test.YtcaajeajakbooaaGreatDoorAmOps13
set_option linter.unusedVariables false
set_option linter.unusedSimpArgs false
namespace Go.Am
open Go

section
variable {esz : TypeId → Nat} {φ : Phi} {P : Program} {w : World} {ρ : Operand → Value} {o : Oper} {G : Nat → Prop} {H H' : AHeap} {N : Nat}

theorem growBy_le (need : Nat) : ∀ (r c : Nat), c ≤ 2 * need + 192 → Builtin.growBy need r c ≤ 2 * need + 192
  | 0, c, h => h
  | r + 1, c, h => by
    unfold Builtin.growBy
    split
    · exact h
    · exact growBy_le need r _ (by omega)
theorem nextslicecap_le {need cap : Nat} (h : cap < need) : Builtin.nextslicecap need cap ≤ 2 * need + 192 := by
  unfold Builtin.nextslicecap
  split
  · omega
  · split
    · omega
    · exact growBy_le need 4 cap (by omega)

/-- the types that an append names -/
structure AppTy (P : Program) (ats : Array TypeId) (e s b : Nat) : Prop where
  d : ∃ T0 T1 d1, ats[0]? = some T0 ∧ ats[1]? = some T1 ∧ P.underlying T0 = some (.slice e) ∧ P.underlying T1 = some d1 ∧ ∀ k, d1 ≠ .int k
  size : ∀ w, (sizeOf e).run P w = .ok s w
  cells : P.cellsOf e = s
  info : ∃ i z, P.info? e = some i ∧ i.bytes = b ∧ i.zero = some z ∧ z.cells.size = s
  s0 : s ≠ 0
  b0 : b ≠ 0

theorem app_room {ats : Array TypeId} {ty e s b : Nat} {x : Value} {base : Option Addr} {len cap n : Nat} {us : List Value} {w' : World} (T : AppTy P ats e s b) (hn : ∀ w, (Builtin.lenOf x).run P w = .ok n w) (hc : len + n ≤ cap)
    (hx : (Builtin.firstCells s n x).run P w = .ok us.toArray w) (hs : (match base with | some a => storeCells (a.add (len * s)) us | none => pure ()).run P w = .ok () w') :
    (Builtin.append_ ats ty #[.slice base len cap, x]).run P w = .ok (.slice base (len + n) cap) w' := by
  obtain ⟨T0, T1, d1, h0, h1, k0, k1, k2⟩ := T.d
  have hm : (match d1 with | .int _ => true | _ => false) = false := by
    cases d1 <;> first | rfl | exact absurd rfl (k2 _)
  cases base with
  | none =>
    cases hs
    simp [Builtin.append_, h0, h1, run_underlying k0, run_underlying k1, T.size, hm, hn, hc, hx]
  | some a =>
    simp [Builtin.append_, h0, h1, run_underlying k0, run_underlying k1, T.size, hm, hn, hc, hx, hs]

theorem app_grow {ats : Array TypeId} {ty e s b : Nat} {x : Value} {base : Option Addr} {len cap n : Nat} {us vs : List Value} (T : AppTy P ats e s b) (hn : ∀ w, (Builtin.lenOf x).run P w = .ok n w) (hc : cap < len + n)
    (hbig : (2 * (len + n) + 192) * b ≤ 281474976710656)
    (ho' : (Builtin.firstCells s len (.slice base len cap)).run P w.drew = .ok vs.toArray w.drew)
    (hx' : (Builtin.firstCells s n x).run P w.drew = .ok us.toArray w.drew) :
    ∃ cap' c, len + n ≤ cap' ∧ (∀ (j : Nat) (u : Value), (vs ++ us)[j]? = some u → c[j]? = some u) ∧ (vs.length = len * s → us.length = n * s → c.size = cap' * s) ∧
      (Builtin.append_ ats ty #[.slice base len cap, x]).run P w = .ok (.slice (some ⟨w.heap.size, 0, none⟩) (len + n) cap') { w with drawn := w.drawn + 1, heap := w.heap.push (.cells c e (0, 0)) } := by
  obtain ⟨T0, T1, d1, h0, h1, k0, k1, k2⟩ := T.d
  obtain ⟨i, z, i1, i2, i3, i4⟩ := T.info
  have hm : (match d1 with | .int _ => true | _ => false) = false := by
    cases d1 <;> first | rfl | exact absurd rfl (k2 _)
  let q : Question := .appendCap (len + n) cap e
  let cap' := q.cut (w.tape w.drawn q)
  have hcap : len + n ≤ cap' := by show len + n ≤ len + n + _; omega
  have hch : (choose (.appendCap (len + n) cap e)).run P w = .ok cap' { w with drawn := w.drawn + 1 } := run_choose ..
  have hz : ∀ w, (zeroValue e).run P w = .ok z w := fun w => by simp [zeroValue, run_typeInfo w i1, i3]
  have hcn : ¬ (len + n ≤ cap) := by omega
  have hb2 : ¬ (Builtin.nextslicecap (len + n) cap * b > 2 ^ 48) := by
    have := Nat.mul_le_mul_right b (nextslicecap_le hc)
    omega
  have hb1 : b ≠ 0 := T.b0
  refine ⟨cap', vs.toArray ++ us.toArray ++ Builtin.zeroCells z.cells (cap' - (len + n)), hcap, ?_, ?_, ?_⟩
  · intro j u hj
    have hlt : j < (vs.toArray ++ us.toArray).size := by
      rcases Nat.lt_or_ge j (vs ++ us).length with h | h
      · simpa using h
      · rw [List.getElem?_eq_none h] at hj; cases hj
    rw [Array.getElem?_append_left hlt]
    simpa using hj
  · intro h1 h2
    simp only [Array.size_append, List.size_toArray, h1, h2, Builtin.zeroCells, Array.size_map, Array.size_range, i4]
    rw [← Nat.add_mul, ← Nat.add_mul]
    congr 1; omega
  · simp only [Builtin.append_, Sem.run_bind]
    have hfo : (Question.appendCap (len + n) cap e).forced = false := rfl
    simp [h0, h1, run_underlying k0, run_underlying k1, T.size, hm, hn, hcn, run_typeInfo _ i1, i2, hb1, hb2, hfo, ho', hx', hz, newRow]
    refine ⟨rfl, ?_⟩
    have e : vs.toArray ++ (us.toArray ++ Builtin.zeroCells z.cells (cap' - (len + n))) = (vs ++ us).toArray ++ Builtin.zeroCells z.cells (cap' - (len + n)) := by
      rw [← Array.append_assoc]; congr 1; apply Array.ext'; rw [Array.toList_append]
    rw [← e]
    rfl

theorem okApp {e s b : Nat} (hok : okK P o.op (.app e s b) = true) : ∃ c, o.op = .call c ∧ c.callee = .builtin .append ∧ AppTy P c.argTypes e s b := by
  cases hop : o.op <;> rw [hop] at hok <;> first | (simp [okK] at hok; done) | skip
  rename_i c
  cases hc : c.callee <;> simp only [okK, hc] at hok <;> first | (cases hok; done) | skip
  rename_i bb
  cases bb <;> simp only [Bool.false_eq_true] at hok
  refine ⟨c, rfl, hc, ?_⟩
  simp only [Bool.and_eq_true, bleN, Bool.not_eq_true'] at hok
  obtain ⟨⟨⟨⟨⟨⟨hd, h2⟩, hs⟩, hb⟩, hs0⟩, hb0⟩, hz⟩ := hok
  obtain ⟨inf, hi, _, hcs, hsz⟩ := sizeIs_some hs
  simp only [hi] at hz
  cases hzv : inf.zero with
  | none => simp [hzv] at hz
  | some z =>
    simp only [hzv, beqN] at hz
    have e0 : c.argTypes[0]? = some (c.argTypes.getD 0 0) := arg0 (by
      have : c.argTypes.size ≠ 0 := by omega
      rw [bool_false (b := Nat.beq c.argTypes.size 0) (by rw [beqN]; exact this)]; rfl)
    have e1 : c.argTypes[1]? = some (c.argTypes.getD 1 0) := by
      have : 1 < c.argTypes.size := by omega
      simp [Array.getD, this]
    have hs0' : s ≠ 0 := by intro e; subst e; simp at hs0
    have hb0' : b ≠ 0 := by intro e; subst e; simp at hb0
    have hbb : inf.bytes = b := by simpa [bytesIs, hi] using hb
    refine ⟨?_, hsz, hcs, ⟨inf, z, hi, hbb, hzv, hz⟩, hs0', hb0'⟩
    generalize hT0 : c.argTypes.getD 0 0 = T0 at *
    generalize hT1 : c.argTypes.getD 1 0 = T1 at *
    cases k0 : P.underlying T0 with
    | none => simp [k0] at hd
    | some d0 =>
      cases d0 <;> first | (simp [k0] at hd; done) | skip
      rename_i el
      cases k1 : P.underlying T1 with
      | none => simp [k0, k1] at hd
      | some d1 =>
        have hel : e = el := by
          cases d1 <;> simp [k0, k1] at hd <;> exact hd
        subst hel
        refine ⟨T0, T1, d1, e0, e1, k0, k1, ?_⟩
        intro k hk
        subst hk
        simp [k0, k1] at hd

theorem call_app {c : Call} (hop : o.op = .call c) (hc : c.callee = .builtin .append) {us : List Value} (ha : c.args.toList.map ρ = us) {w w' : World} {r : Value}
    (h : (Builtin.append_ c.argTypes o.type us.toArray).run P w = .ok r w') : (execOp ρ o).run P w = .ok (.value r) w' := by
  rw [call_builtin hop hc, args_eq ha]
  simp [builtin, h]

/-- a new block for a new object: phantom and link at once -/
theorem Sim.alloc {w' : World} {x : AVal} {cs : List AVal} {e : Nat} {c : Array Value} {fz : Nat × Nat} (S : Sim esz φ G H w.heap) (hN : N ≤ H.next) (hh : w'.heap = w.heap.push (.cells c e fz)) (k1 : w'.os = w.os) (k2 : w'.tape = w.tape)
    (k3 : w'.output = w.output) (hr : ORel esz (lnk φ H.next ⟨w.heap.size, 0, c.size, e⟩) (H.new cs e) ⟨w.heap.size, 0, c.size, e⟩ w'.heap (.cells cs e H.next 0)) :
    Sim esz (lnk φ H.next ⟨w.heap.size, 0, c.size, e⟩) G (H.new cs e) w'.heap ∧ Step N φ H w (lnk φ H.next ⟨w.heap.size, 0, c.size, e⟩) (H.new cs e) w' := by
  have hn : φ H.next = none := by
    cases h : φ H.next with
    | none => rfl
    | some p => exact absurd (S.lt _ _ h) (Nat.lt_irrefl _)
  have hg : ∀ cs' e' g v, AObj.cells cs e H.next 0 = .cells cs' e' g v → g = H.next ∧ v = 0 := fun cs' e' g v h => by cases h; exact ⟨rfl, rfl⟩
  have S1 : Sim esz φ G (H.newObj (.cells cs e H.next 0)) w.heap := S.phantom _ hg
  have T1 : Step N φ H w φ (H.newObj (.cells cs e H.next 0)) w := Step.phantom S hN _
  have hob : (H.newObj (.cells cs e H.next 0)).objs.get H.next = some (.cells cs e H.next 0) := by simp
  have hgr : (H.newObj (.cells cs e H.next 0)).grps.get H.next = none := by simpa using (S.fresh H.next (Nat.le_refl _)).2
  refine ⟨?_, T1.trans ?_⟩
  · rw [hh] at hr ⊢
    exact S1.link hn hob (fun g h => by cases h; rfl) hgr rfl rfl hr
  · exact Step.link hn hN rfl hh k1 k2 k3
end
end Go.Am

namespace Go.Am
open Go

section
variable {esz : TypeId → Nat} {φ : Phi} {P : Program} {w : World} {ρ : Operand → Value} {o : Oper} {G : Nat → Prop} {H H' : AHeap} {N : Nat}

theorem orel_app {b : Nat} {c : Array Value} {e g : Nat} {cs : List AVal} {us : List Value} {heap : Array Obj} (h : heap[b]? = some (.cells c e (0, 0))) (hv : VRels esz φ cs us) (hp : ∀ (j : Nat) u, us[j]? = some u → c[j]? = some u)
    (hl : cs.length ≤ c.size) : ORel esz φ H ⟨b, 0, c.size, e⟩ heap (.cells cs e g 0) := orel_cells h hv hp hl (noFrozen_zero _)

theorem drop_cells {i off n : Nat} {cs old : List AVal} {e g : Nat} (hl : H.live i = some (cs, e, g)) (hc : H.cellsAt i off n = some old) (he : off + n = cs.length) : old = cs.drop off := by
  obtain ⟨cs', e', g', h1, h2, h3⟩ := cellsAt_some hc
  rw [hl] at h1
  cases h1
  rw [h3, List.take_of_length_le (by rw [List.length_drop]; omega)]

theorem eff_app {e s b : Nat} {vs : List AVal} {v : AVal} {f : AHeap → Option (AVal × AHeap)} (hesz : ∀ t, esz t = P.cellsOf t) (hok : okK P o.op (.app e s b) = true) (hr : VRels esz φ vs ((argsOf o.op).map ρ)) (ha : actK (.app e s b) vs = .eff f)
    (hf : f H = some (v, H')) (S : Sim esz φ G H w.heap) (hN : N ≤ H.next) : EffRes esz G P ρ o N φ H w v H' := by
  have ha' : aApp e s b vs = .eff f := ha
  obtain ⟨c, hop, hc, T⟩ := okApp hok
  rw [hop, args_builtin hc] at hr
  unfold aApp at ha'
  split at ha' <;> cases ha'
  rename_i sv xv
  obtain ⟨u1, u2, e1, h1, h2⟩ := hr.inv2
  unfold eApp at hf
  cases hlx : alen xv with
  | none => rw [hlx] at hf; cases hf
  | some n =>
  rw [hlx] at hf
  simp only at hf
  cases hex : elemsOf H s n xv with
  | none => rw [hex] at hf; cases hf
  | some new =>
  rw [hex] at hf
  simp only at hf
  by_cases hfl : new.all flat = true
  rotate_left
  · rw [bif_false (bool_false hfl)] at hf; cases hf
  rw [bif_true hfl] at hf
  have hn : ∀ w, (Builtin.lenOf u2).run P w = .ok n w := fun w => lenOf_run (w := w) h2 hlx
  obtain ⟨us, x1, x2⟩ := first_cells (P := P) (w := w) S h2 hlx (Nat.le_refl n) hex
  obtain ⟨usd, xd1, xd2⟩ := first_cells (P := P) (w := w.drew) S h2 hlx (Nat.le_refl n) hex
  have hne : φ H.next = none := by
    cases h : φ H.next with
    | none => rfl
    | some p => exact absurd (S.lt _ _ h) (Nat.lt_irrefl _)
  -- the number of the new cells
  have hnl : n ≠ 0 → xv ≠ .nilsl := fun h0 e => by subst e; cases hlx; exact h0 rfl
  unfold appTo at hf
  split at hf <;> first | (cases hf; done) | skip
  · -- a nil slice
    cases h1
    by_cases hn0 : Nat.beq n 0 = true
    · rw [bif_true hn0] at hf; cases hf
      rw [beqN] at hn0; subst hn0
      exact ⟨φ, .value (.slice none 0 0), w, call_app hop hc e1 (app_room (base := none) T hn (Nat.le_refl _) x1 (by simp)), .value .nilsl, S, Step.refl N φ H w⟩
    · rw [bif_false (bool_false hn0)] at hf
      rw [beqN] at hn0
      by_cases hb : Nat.ble (Nat.mul (Nat.add (Nat.mul 2 n) 192) b) 281474976710656 = true
      rotate_left
      · rw [bif_false (bool_false hb)] at hf; cases hf
      rw [bif_true hb] at hf; cases hf
      rw [bleN] at hb
      have hb : (2 * n + 192) * b ≤ 281474976710656 := hb
      have hxl := elems_length hlx (Nat.le_refl n) hex
      have hud := xd2.length
      obtain ⟨cap', cc, g1, g2, g3, g4⟩ := app_grow (w := w) (ty := o.type) (base := none) (len := 0) (cap := 0) (vs := []) (us := usd) T hn (by omega) (by simpa using hb) (by simp [Builtin.firstCells]) xd1
      have hsz : cc.size = cap' * s := g3 (by simp) (by omega)
      have hcs : esz e = s := by rw [hesz]; exact T.cells
      have hle : n * s ≤ cap' * s := Nat.mul_le_mul_right s (by omega)
      obtain ⟨s1, s2⟩ := Sim.alloc (N := N) (x := .any) (cs := new) (e := e) (c := cc) (fz := (0, 0)) (w' := { w with drawn := w.drawn + 1, heap := w.heap.push (.cells cc e (0, 0)) }) S hN rfl rfl rfl rfl
        (orel_app (push_self _ _) (xd2.mono (link_ext hne)) (fun j u hj => g2 j u (by simpa using hj)) (by omega))
      refine ⟨_, .value (.slice (some ⟨w.heap.size, 0, none⟩) (0 + n) cap'), _, call_app hop hc e1 g4, .value ?_, s1, s2⟩
      rw [Nat.zero_add]
      exact VRel.sli 0 n n cap' (link_self φ H.next ⟨w.heap.size, 0, cc.size, e⟩) T.s0 hcs (by omega) (by show 0 + 0 + cap' * s ≤ cc.size; omega)
  · rename_i i off len lo ez
    have hxl := elems_length hlx (Nat.le_refl n) hex
    have hul := x2.length
    have hcs : esz e = s := by rw [hesz]; exact T.cells
    by_cases hroom : Nat.ble (Nat.add len n) lo = true
    · rw [bif_true hroom] at hf
      rw [bleN] at hroom
      have hroom : len + n ≤ lo := hroom
      cases hst : H.store i (Nat.add off (Nat.mul len s)) new with
      | none => rw [hst] at hf; cases hf
      | some H1 =>
        rw [hst] at hf; cases hf
        have go : ∀ (p : PI) (cap : Nat), φ i = some p → len + n ≤ cap → u1 = .slice (some ⟨p.blk, p.base + off, none⟩) len cap → VRel esz φ (.sl i off (Nat.add len n) lo ez) (.slice (some ⟨p.blk, p.base + off, none⟩) (len + n) cap) →
            EffRes esz G P ρ o N φ H w (.sl i off (Nat.add len n) lo ez) H' := by
          intro p cap hp hle hu hv
          obtain ⟨w', r1, r2, r3⟩ := S.store (P := P) (N := N) hst hp x2
          subst hu
          refine ⟨φ, .value (.slice (some ⟨p.blk, p.base + off, none⟩) (len + n) cap), w', call_app hop hc e1 (app_room (base := some ⟨p.blk, p.base + off, none⟩) T hn hle x1 ?_), .value hv, r2, r3⟩
          show (storeCells ((⟨p.blk, p.base + off, none⟩ : Addr).add (len * s)) us).run P w = .ok () w'
          rw [addr_add, Nat.add_assoc]
          exact r1
        cases h1 with
        | slx _ _ _ hp => exact go _ _ hp hroom rfl (.slx _ _ _ hp)
        | sli _ _ _ _ hp h0 hz hcc hs => exact go _ _ hp (by omega) rfl (.sli _ _ _ _ hp h0 hz hcc hs)
        | sle _ hp h0 a =>
          have hn0 : n = 0 := by omega
          subst hn0
          have hnew : new = [] := by rw [Nat.zero_mul] at hxl; exact List.length_eq_zero_iff.1 hxl
          subst hnew
          cases x2
          have hH : H' = H := by simpa [AHeap.store] using hst.symm
          subst hH
          exact ⟨φ, .value (.slice (some a) 0 0), w, call_app hop hc e1 (app_room (base := some a) T hn (Nat.le_refl _) x1 (by simp [storeCells])), .value (.sle _ hp h0 a), S, Step.refl N φ _ w⟩
    · rw [bif_false (bool_false hroom)] at hf
      rw [bleN] at hroom
      have hroom : lo < len + n := by show lo < len + n; have : ¬ (len + n ≤ lo) := hroom; omega
      by_cases hb : Nat.ble (Nat.mul (Nat.add (Nat.mul 2 (Nat.add len n)) 192) b) 281474976710656 = true
      rotate_left
      · rw [bif_false (bool_false hb)] at hf; cases hf
      rw [bif_true hb] at hf
      rw [bleN] at hb
      have hb : (2 * (len + n) + 192) * b ≤ 281474976710656 := hb
      cases heo : elemsOf H s len (.sl i off len lo ez) with
      | none => rw [heo] at hf; cases hf
      | some old =>
      rw [heo] at hf
      simp only at hf
      by_cases hof : old.all flat = true
      rotate_left
      · rw [bool_false hof] at hf; cases hf
      rw [hof] at hf
      have hol := elems_length (m := len) rfl (Nat.le_refl len) heo
      obtain ⟨uo, o1, o2⟩ := first_cells (P := P) (w := w.drew) S h1 rfl (Nat.le_refl len) heo
      have huo := o2.length
      have hud := xd2.length
      have hlenN : len ≠ 0 ∨ n ≠ 0 := by omega
      -- a new block for the real slice
      have grow : ∀ (base : Option Addr) (cap : Nat), u1 = .slice base len cap → cap < len + n → ∃ cap' cc, len + n ≤ cap' ∧ (∀ (j : Nat) (u : Value), (uo ++ usd)[j]? = some u → cc[j]? = some u) ∧ cc.size = cap' * s ∧
          (execOp ρ o).run P w = .ok (.value (.slice (some ⟨w.heap.size, 0, none⟩) (len + n) cap')) { w with drawn := w.drawn + 1, heap := w.heap.push (.cells cc e (0, 0)) } := by
        intro base cap hu hcap
        subst hu
        obtain ⟨cap', cc, g1, g2, g3, g4⟩ := app_grow (w := w) (ty := o.type) (base := base) (len := len) (cap := cap) (vs := uo) (us := usd) T hn hcap hb o1 xd1
        exact ⟨cap', cc, g1, g2, g3 (by omega) (by omega), call_app hop hc e1 g4⟩
      have hrel : VRels esz φ (old ++ new) (uo ++ usd) := o2.append xd2
      have hlen2 : (old ++ new).length = (len + n) * s := by rw [List.length_append, hol, hxl, Nat.add_mul]
      by_cases hez : Nat.beq ez 0 = true
      · rw [bif_true hez] at hf
        rw [beqN] at hez
        subst hez
        cases hf
        cases h1 with
        | slx _ _ _ hp =>
          obtain ⟨cap', cc, g1, g2, g3, g4⟩ := grow _ _ rfl hroom
          have hle : (len + n) * s ≤ cap' * s := Nat.mul_le_mul_right s g1
          obtain ⟨s1, s2⟩ := Sim.alloc (N := N) (x := .any) (cs := old ++ new) (e := e) (c := cc) (fz := (0, 0)) (w' := { w with drawn := w.drawn + 1, heap := w.heap.push (.cells cc e (0, 0)) }) S hN rfl rfl rfl rfl
            (orel_app (push_self _ _) (hrel.mono (link_ext hne)) g2 (by omega))
          refine ⟨_, .value _, _, g4, .value ?_, s1, s2⟩
          exact VRel.sli 0 (len + n) (len + n) cap' (link_self φ H.next ⟨w.heap.size, 0, cc.size, e⟩) T.s0 hcs g1 (by show 0 + 0 + cap' * s ≤ cc.size; omega)
        | sli _ _ _ _ hp h0 => exact absurd rfl h0
        | sle _ hp h0 => exact absurd rfl h0
      · rw [bif_false (bool_false hez)] at hf
        rw [beqN] at hez
        cases hl : H.live i with
        | none => rw [hl] at hf; cases hf
        | some q =>
          obtain ⟨cs, e', g⟩ := q
          rw [hl] at hf
          simp only at hf
          cases hg : H.grp g with
          | mk ver tip fz =>
          rw [hg] at hf
          simp only at hf
          by_cases hcond : (Nat.beq e' e && !(Nat.beq g 0) && !fz && Nat.beq tip i && Nat.beq (Nat.add off (Nat.mul len s)) cs.length && Nat.beq (Nat.mod off s) 0) = true
          rotate_left
          · rw [bif_false (bool_false hcond)] at hf; cases hf
          rw [bif_true hcond] at hf
          cases hf
          simp only [Bool.and_eq_true, beqN, Bool.not_eq_true'] at hcond
          obtain ⟨⟨⟨⟨⟨he', hg0⟩, hfz⟩, htip⟩, hlen⟩, hmod⟩ := hcond
          subst he'
          subst hfz
          subst htip
          have hlen : off + len * s = cs.length := hlen
          have hmod : off % s = 0 := hmod
          have hg0 : g ≠ 0 := by intro h; subst h; simp at hg0
          have hold : old = cs.drop off := by
            have heo' : (bif Nat.beq (Nat.mul len s) 0 then some [] else H.cellsAt tip off (Nat.mul len s)) = some old := heo
            by_cases h0 : Nat.beq (Nat.mul len s) 0 = true
            · rw [bif_true h0] at heo'
              cases heo'
              rw [beqN] at h0
              have h0 : len * s = 0 := h0
              rw [List.drop_eq_nil_of_le (by omega)]
            · rw [bif_false (bool_false h0)] at heo'
              exact drop_cells hl heo' hlen
          have hver : (H.grp g).ver = ver := by rw [hg]
          have happ : (H.newObj (.cells (old ++ new) e' g ver)).setGrp g ⟨ver, H.next, false⟩ = appHeap H (cs.drop off ++ new) e' g (H.grp g).ver := by rw [hver, hold]; rfl
          rw [happ]
          have hfz' : (H.grp g).fz = false := by rw [hg]
          have htip' : (H.grp g).tip = tip := by rw [hg]
          have hle' : ∀ cap', len + n ≤ cap' → (len + n) * s ≤ cap' * s := fun cap' h => Nat.mul_le_mul_right s h
          have big : ∀ (p : PI) (base : Option Addr) (cap : Nat), φ tip = some p → u1 = .slice base len cap → cap < len + n → EffRes esz G P ρ o N φ H w (.sl H.next 0 (Nat.add len n) (Nat.add len n) s) (appHeap H (cs.drop off ++ new) e' g (H.grp g).ver) := by
            intro p base cap hp hu hcap
            obtain ⟨cap', cc, g1, g2, g3, g4⟩ := grow base cap hu hcap
            have := hle' cap' g1
            have hrel' : VRels esz φ (cs.drop off ++ new) (uo ++ usd) := by rw [← hold]; exact hrel
            obtain ⟨s1, s2⟩ := Sim.appNew (N := N) (o := off) (vs := new) (c := cc) (w' := { w with drawn := w.drawn + 1, heap := w.heap.push (.cells cc e' (0, 0)) }) S hl hp hg0 hfz'
              (fun j v hj => by
                obtain ⟨u, k1, k2⟩ := hrel'.get hj
                exact ⟨u, g2 j u k1, k2⟩) (by rw [← hold]; omega) rfl rfl rfl rfl hN
            refine ⟨_, .value _, _, g4, .value ?_, s1, s2⟩
            exact VRel.sli 0 (len + n) (len + n) cap' (link_self φ H.next ⟨w.heap.size, 0, cc.size, e'⟩) T.s0 hcs g1 (by show 0 + 0 + cap' * s ≤ cc.size; omega)
          cases h1 with
          | slx => exact absurd rfl hez
          | @sli _ _ _ _ cap _ p hp h0 hz hcc hs =>
            by_cases hfit : len + n ≤ cap
            · obtain ⟨_, _, _, q2, _⟩ := S.cells hl hp
              have hezs : ez = s := by rw [← hz, q2, hcs]
              subst hezs
              have hroom2 : p.base + cs.length + us.length ≤ p.size := by
                have : (len + n) * ez ≤ cap * ez := Nat.mul_le_mul_right ez hfit
                rw [Nat.add_mul] at this
                omega
              obtain ⟨w', r1, r2, r3⟩ := Sim.appRoom (P := P) (N := N) (o := off) S hl hp hg0 hfz' htip' (by omega) (by rw [hz]; exact hmod) x2 hfl hroom2 hN
              refine ⟨_, .value (.slice (some ⟨p.blk, p.base + off, none⟩) (len + n) cap), w', call_app hop hc e1 (app_room (base := some ⟨p.blk, p.base + off, none⟩) T hn hfit x1 ?_), .value ?_, r2, r3⟩
              · show (storeCells ((⟨p.blk, p.base + off, none⟩ : Addr).add (len * ez)) us).run P w = .ok () w'
                rw [addr_add, Nat.add_assoc, hlen]
                exact r1
              · exact VRel.sli 0 (len + n) (len + n) cap (link_self φ H.next ⟨p.blk, p.base + off, p.size, p.elem⟩) T.s0 hz hfit (by show p.base + off + 0 + cap * ez ≤ p.size; omega)
            · exact big p _ _ hp rfl (by omega)
          | @sle _ _ _ p hp h0 a => exact big p _ _ hp rfl (by omega)
end
end Go.Am

namespace Go.Am
open Go

section
variable {esz : TypeId → Nat} {φ : Phi} {P : Program} {w : World} {ρ : Operand → Value} {o : Oper} {G : Nat → Prop} {H H' : AHeap} {N : Nat}

theorem cellBytes_vals : ∀ (cs : List AVal) (bs : List Nat) (us : List Value), VRels esz φ cs us → cellBytes cs = some bs → ∃ l : List UInt8, l.map UInt8.toNat = bs ∧ us = l.map fun b => Value.int .u8 b.toNat
  | [], bs, us, h, hb => by cases h; simp only [cellBytes, Option.some.injEq] at hb; subst hb; exact ⟨[], rfl, rfl⟩
  | c :: cs, bs, us, h, hb => by
    cases h with
    | cons h t =>
    unfold cellBytes at hb
    split at hb <;> first | (cases hb; done) | skip
    · rename_i heq; cases heq
    · rename_i b l heq
      cases heq
      by_cases hlt : Nat.blt b 256 = true
      · rw [bif_true hlt] at hb
        rw [bltN] at hlt
        cases hl : cellBytes cs with
        | none => rw [hl] at hb; cases hb
        | some bs' =>
          rw [hl] at hb
          simp only [Option.some.injEq] at hb
          subst hb
          cases h
          obtain ⟨l, h1, h2⟩ := cellBytes_vals cs bs' _ t hl
          refine ⟨UInt8.ofNat b :: l, ?_, ?_⟩
          · simp [h1, Nat.mod_eq_of_lt hlt]
          · simp [h2, Nat.mod_eq_of_lt hlt]
      · rw [bif_false (bool_false hlt)] at hb; cases hb

theorem extern_callT {c : Call} {f : Operand} {name : String} {e : Func → Array Value → Sem Value} (hρ : Names ρ) (hop : o.op = .call c) (hc : c.callee = .value f) (hx : externIs P f name = true)
    (hnn : name ≠ "runtime.NumGoroutine") (he : ∀ fn : Func, fn.name = name → Extern.find fn = some (e fn)) (w : World) :
    argsOf (.call c) = c.args.toList ∧ ∃ g fn, direct f = some g ∧ P.funcs[g]? = some fn ∧ (execOp ρ o).run P w = ((e fn (c.args.map ρ)).run P w).andThen fun v w' => .ok (.value v) w' := by
  unfold externIs at hx
  cases hd : direct f with
  | none => simp [hd] at hx
  | some g =>
    simp only [hd] at hx
    cases hg : P.funcs[g]? with
    | none => simp [hg] at hx
    | some fn =>
      simp only [hg, Bool.and_eq_true, beq_iff_eq] at hx
      obtain ⟨⟨h1, h2⟩, h3⟩ := hx
      have hf := hρ f g hd
      constructor
      · unfold direct at hd
        split at hd <;> cases hd <;> simp [argsOf, hc]
      · refine ⟨g, fn, rfl, hg, ?_⟩
        simp only [execOp, hop, resolve, hc, hf, Deferred.ofValue]
        have h4 : Extern.findNext fn = none := by cases hq : Extern.findNext fn <;> simp_all
        have hm : ∀ (m : Mark) (w : World), (Sem.mark m (Sem.pure ())).run P w = .ok () w := fun _ _ => rfl
        have h6 : fn.body = none := by simpa using h2
        have h7 : fn.name ≠ "runtime.NumGoroutine" := by rw [h1]; exact hnn
        simp [invoke, callFunc, hg, h7, h6, mark, h4, he fn h1, hm, Result.andThen]

theorem digits_size : ∀ (n t : Nat) (acc : Array Value), (Extern.BytealgMakeNoZero.digits n t acc).size = acc.size + n
  | 0, _, acc => rfl
  | n + 1, t, acc => by rw [Extern.BytealgMakeNoZero.digits, digits_size n]; simp; omega
theorem digits_one : ∀ (n t : Nat) (acc : Array Value), (∀ u ∈ acc.toList, u.oneCell' = true) → ∀ u ∈ (Extern.BytealgMakeNoZero.digits n t acc).toList, u.oneCell' = true
  | 0, _, acc, h => h
  | n + 1, t, acc, h => by
    rw [Extern.BytealgMakeNoZero.digits]
    refine digits_one n _ _ fun u hu => ?_
    rw [Array.toList_push] at hu
    rcases List.mem_append.1 hu with hu | hu
    · exact h u hu
    · simp at hu; subst hu; rfl

theorem any_rel : ∀ (us : List Value), (∀ u ∈ us, u.oneCell' = true) → VRels esz φ (List.replicate us.length .any) us
  | [], _ => .nil
  | u :: us, h => by
    rw [List.length_cons, List.replicate_succ]
    exact .cons (.any u (h u (List.mem_cons_self ..))) (any_rel us fun v hv => h v (List.mem_cons_of_mem _ hv))
theorem repl_any (n : Nat) : repl [.any] n = List.replicate n .any := by
  induction n with
  | zero => rfl
  | succ n ih => rw [repl, ih]; rfl

theorem eff_noZero {e : TypeId} {vs : List AVal} {v : AVal} {f : AHeap → Option (AVal × AHeap)} (hρ : Names ρ) (hesz : ∀ t, esz t = P.cellsOf t) (hok : okK P o.op (.noZero e) = true) (hr : VRels esz φ vs ((argsOf o.op).map ρ)) (ha : actK (.noZero e) vs = .eff f)
    (hf : f H = some (v, H')) (S : Sim esz φ G H w.heap) (hN : N ≤ H.next) : EffRes esz G P ρ o N φ H w v H' := by
  have ha' : aNoZero e vs = .eff f := ha
  cases hop : o.op <;> rw [hop] at hok hr <;> first | (simp [okK] at hok; done) | skip
  rename_i c
  cases hc : c.callee <;> simp only [okK, hc] at hok <;> first | (cases hok; done) | skip
  rename_i fo
  simp only [Bool.and_eq_true] at hok
  obtain ⟨hx, hd⟩ := hok
  obtain ⟨e1, g, fn, d1, d2, d3⟩ := extern_callT (P := P) (e := fun fn => Extern.BytealgMakeNoZero.makeNoZero fn.params fn.resultTypes) hρ hop hc hx (by simp) (fun fn hn => by
    simp [Extern.find, hn, look_mnz.1, look_mnz.2]) w
  rw [e1] at hr
  simp only [d1, d2] at hd
  cases ht : fn.resultTypes[0]? with
  | none => simp [ht] at hd
  | some t =>
    simp only [ht] at hd
    cases hdd : P.underlying t with
    | none => simp [hdd] at hd
    | some d =>
      cases d <;> first | (simp [hdd] at hd; done) | skip
      rename_i el
      simp only [hdd, Bool.and_eq_true, beqN] at hd
      obtain ⟨rfl, hs⟩ := hd
      obtain ⟨_, _, _, hcs, _⟩ := sizeIs_some hs
      unfold aNoZero at ha'
      split at ha' <;> first | (cases ha'; done) | skip
      rename_i n
      by_cases hb : Nat.ble n 281474976710656 = true
      · rw [bif_true hb] at ha'; cases ha'
        rw [bleN] at hb
        unfold eNoZero at hf
        cases hf
        obtain ⟨u, e2, h⟩ := hr.inv1
        cases h
        have hne : φ H.next = none := by
          cases h : φ H.next with
          | none => rfl
          | some p => exact absurd (S.lt _ _ h) (Nat.lt_irrefl _)
        let q : Question := .appendCap n 0 e
        let cap := q.cut (w.tape w.drawn q)
        have hcap : n ≤ cap := by show n ≤ n + _; omega
        have hrun0 : ∃ b : Nat, (Extern.BytealgMakeNoZero.makeNoZero fn.params fn.resultTypes #[.int .i64 (Int.ofNat n)]).run P w = .ok (.slice (some ⟨w.heap.size, 0, none⟩) n cap)
            { w with drawn := w.drawn + 1 + 1, heap := w.heap.push (.cells (Extern.BytealgMakeNoZero.digits cap b #[]) e (0, 0)) } := by
          have g1 : ¬ ((Int.ofNat n) < 0) := by simp
          have g2 : ¬ ((Int.ofNat n) > 2 ^ 48) := by simp; omega
          have hfo : (Question.appendCap n 0 e).forced = false := rfl
          obtain ⟨rl⟩ : ∃ rl : List TypeId, fn.resultTypes = rl.toArray := ⟨fn.resultTypes.toList, rfl⟩
          generalize fn.resultTypes = rs at ht
          obtain ⟨rl⟩ := rs
          cases rl with
          | nil => simp at ht
          | cons t' rl =>
            simp at ht
            subst ht
            have e1 : Extern.BytealgMakeNoZero.makeNoZero fn.params ⟨t' :: rl⟩ #[.int .i64 (Int.ofNat n)] = bind (underlying t') _ := rfl
            rw [e1]
            have g3 : ¬ ((n : Int) < 0 ∨ 281474976710656 < (n : Int)) := by omega
            simp [run_underlying hdd, hfo, Question.forced, newRow, g3]
            exact ⟨rfl, _, rfl⟩
        obtain ⟨b, hrun⟩ := hrun0
        let c := Extern.BytealgMakeNoZero.digits cap b #[]
        have hcsz : c.size = cap := by simp [c, digits_size]
        let w' : World := { w with drawn := w.drawn + 1 + 1, heap := w.heap.push (.cells c e (0, 0)) }
        have hone : ∀ u ∈ c.toList.take n, u.oneCell' = true := fun u hu => digits_one cap b #[] (by simp) u (List.mem_of_mem_take hu)
        have hlen : (c.toList.take n).length = n := by simp [hcsz]; omega
        have hcl : (repl [.any] n).length = n := by rw [repl_any]; simp
        have hor : ORel esz (lnk φ H.next ⟨w.heap.size, 0, c.size, e⟩) (H.new (repl [.any] n) e) ⟨w.heap.size, 0, c.size, e⟩ w'.heap (.cells (repl [.any] n) e H.next 0) := by
          refine orel_cells (us := c.toList.take n) (fz := (0, 0)) (push_self _ _) ?_ ?_ ?_ (noFrozen_zero _)
          · rw [repl_any]
            have := any_rel (esz := esz) (φ := lnk φ H.next ⟨w.heap.size, 0, c.size, e⟩) (c.toList.take n) hone
            rwa [hlen] at this
          · intro j u hj
            rw [List.getElem?_take] at hj
            split at hj
            · simpa using hj
            · cases hj
          · rw [hcl, hcsz]; exact hcap
        obtain ⟨S', T'⟩ := Sim.alloc (x := .any) S hN (w' := w') (c := c) (fz := (0, 0)) rfl rfl rfl rfl hor
        refine ⟨lnk φ H.next ⟨w.heap.size, 0, c.size, e⟩, .value (.slice (some ⟨w.heap.size, 0, none⟩) n cap), w', ?_, .value ?_, S', T'⟩
        · rw [d3, args_eq e2, hrun]; rfl
        · exact .sli (φ := lnk φ H.next ⟨w.heap.size, 0, c.size, e⟩) (p := ⟨w.heap.size, 0, c.size, e⟩) 0 n n cap (link_self _ _ _) (by decide) (by rw [hesz]; exact hcs) hcap (by simp [hcsz])
      · rw [bif_false (bool_false hb)] at ha'; cases ha'
end
end Go.Am

namespace Go.Am
open Go

section
variable {esz : TypeId → Nat} {φ : Phi} {P : Program} {w : World} {ρ : Operand → Value} {o : Oper} {G : Nat → Prop} {H H' : AHeap} {N : Nat}

theorem lies_row {e : TypeId} {off n cells : Nat} (hs : P.cellsOf e = 1) (hb : off + n ≤ cells) : liesAt P P.depth e (cells / P.cellsOf e) off e n = true := by
  have hd : P.depth = (2 * (P.types.size + Made.depth) + 1) + 1 := rfl
  rw [hd]
  simp only [liesAt, Bool.or_eq_true]
  left
  rw [hd]
  simp [rowAt, hs, sameLayout, hb, Nat.mod_one]

theorem unsStr_run {ats : Array TypeId} {ty T e : TypeId} {a : Addr} {k : IntKind} {n : Nat} {s : ByteArray} (h : ats[0]? = some T) (hd : P.underlying T = some (.pointer e)) (h0 : n ≠ 0) (hmax : n ≤ 281474976710656)
    (hv : (variablesAt a e n).run P w = .ok true w) (hl : (loadBytes a .empty n).run P w = .ok s w) :
    (Builtin.unsafeString_ ats ty #[.pointer (some a), .int k (n : Int)]).run P w = .ok (.string s) (w.freeze a n) := by
  have e1 : Builtin.unsafeString_ ats ty #[.pointer (some a), .int k (n : Int)] = bind (asInt (.int k (n : Int))) _ := rfl
  rw [e1]
  have hmx : IntKind.i64.max = 9223372036854775807 := by decide
  have hm : ¬ ((9223372036854775807 : Int) < (n : Int)) := by omega
  have hneg : ¬ ((n : Int) < 0) := by omega
  have hz : ¬ ((n : Int) = 0) := by omega
  simp [asInt, asIntOf, h, hmx, hm, hneg, hz, h0, elemOf, run_underlying hd, hv, hl]

theorem cellBytes_get : ∀ (cs : List AVal) (bs : List Nat), cellBytes cs = some bs → bs.length = cs.length ∧ ∀ (j b : Nat), bs[j]? = some b → b < 256 ∧ cs[j]? = some (.int .u8 (Int.ofNat b))
  | [], bs, h => by simp only [cellBytes, Option.some.injEq] at h; subst h; exact ⟨rfl, fun j b h => by simp at h⟩
  | c :: cs, bs, h => by
    unfold cellBytes at h
    split at h <;> first | (cases h; done) | skip
    · rename_i heq; cases heq
    · rename_i b l heq
      cases heq
      by_cases hlt : Nat.blt b 256 = true
      · rw [bif_true hlt] at h
        rw [bltN] at hlt
        cases hl : cellBytes cs with
        | none => rw [hl] at h; cases h
        | some bs' =>
          rw [hl] at h
          simp only [Option.some.injEq] at h
          subst h
          obtain ⟨h1, h2⟩ := cellBytes_get cs bs' hl
          refine ⟨by simp [h1], fun j b' hj => ?_⟩
          cases j with
          | zero => simp at hj; subst hj; exact ⟨hlt, rfl⟩
          | succ j => exact h2 j b' (by simpa using hj)
      · rw [bif_false (bool_false hlt)] at h; cases h

theorem eff_unsStr {e : TypeId} {vs : List AVal} {v : AVal} {f : AHeap → Option (AVal × AHeap)} (hok : okK P o.op (.unsStr e) = true) (hr : VRels esz φ vs ((argsOf o.op).map ρ)) (ha : actK (.unsStr e) vs = .eff f)
    (hf : f H = some (v, H')) (S : Sim esz φ G H w.heap) : EffRes esz G P ρ o N φ H w v H' := by
  have ha' : aUnsStr e vs = .eff f := ha
  cases hop : o.op <;> rw [hop] at hok hr <;> first | (simp [okK] at hok; done) | skip
  rename_i c
  cases hc : c.callee <;> simp only [okK, hc] at hok <;> first | (cases hok; done) | skip
  rename_i b
  cases b <;> simp only [Bool.false_eq_true] at hok
  simp only [Bool.and_eq_true] at hok
  obtain ⟨hd, h0⟩ := hok
  rw [args_builtin hc] at hr
  have e0 := arg0 h0
  generalize hT : c.argTypes.getD 0 0 = T at *
  cases hdd : P.underlying T with
  | none => simp [hdd] at hd
  | some d =>
    cases d <;> first | (simp [hdd] at hd; done) | skip
    rename_i el
    simp only [hdd, Bool.and_eq_true, beqN] at hd
    obtain ⟨⟨rfl, hs⟩, hu⟩ := hd
    obtain ⟨_, _, _, hcs, _⟩ := sizeIs_some hs
    unfold aUnsStr at ha'
    split at ha' <;> first | (cases ha'; done) | skip
    · rename_i i off k n
      by_cases hb : Nat.beq n 0 = true
      · rw [bif_true hb] at ha'; cases ha'
      · rw [bif_false (bool_false hb)] at ha'; cases ha'
        rw [beqN] at hb
        obtain ⟨u1, u2, e1, h1, h2⟩ := hr.inv2
        cases h2
        cases h1 with
        | @ptr _ _ p hp =>
        unfold eUnsStr at hf
        split at hf <;> first | (cases hf; done) | skip
        rename_i cs0 e' g cs hl hcells
        cases hg : H.grp g with
        | mk ver tip fz =>
        rw [hg] at hf
        cases hcb : cellBytes cs with
        | none => rw [hcb] at hf; cases hf
        | some bs =>
          rw [hcb] at hf
          simp only at hf
          by_cases hg0 : (Nat.beq g 0 || !(Nat.beq e e') || !(Nat.ble n 281474976710656)) = true
          · rw [bif_true hg0] at hf; cases hf
          · rw [bif_false (bool_false hg0)] at hf
            cases hf
            have hgz : g ≠ 0 := by intro h; subst h; simp at hg0
            have hmaxn : n ≤ 281474976710656 := by
              rcases Nat.lt_or_ge 281474976710656 n with h | h
              · have : Nat.ble n 281474976710656 = false := bool_false (by rw [bleN]; omega)
                rw [this] at hg0; simp at hg0
              · exact h
            have hee : e = e' := by
              rcases Nat.decEq e e' with h | h
              · simp [h] at hg0
              · exact h
            subst hee
            obtain ⟨cc, fz', q1, q2, q3, q4, q5, q6⟩ := S.cells hl hp
            obtain ⟨cs1, e1', g1', l1, l2, l3⟩ := cellsAt_some hcells
            rw [hl] at l1
            cases l1
            obtain ⟨us, r1, r2⟩ := S.loadCells (P := P) hcells hp
            obtain ⟨lb, b1, b2⟩ := cellBytes_vals cs bs us r2 hcb
            have hlen := cellsAt_length hcells
            obtain ⟨k1, k2⟩ := cellBytes_get cs bs hcb
            have hcell : ∀ (j : Nat) (x : UInt8), (bs.map UInt8.ofNat)[j]? = some x → w.cell? ((⟨p.blk, p.base + off, none⟩ : Addr).add j) = some (.int .u8 x.toNat) := by
              intro j x hj
              rw [List.getElem?_map] at hj
              cases hbj : bs[j]? with
              | none => rw [hbj] at hj; cases hj
              | some b =>
                rw [hbj] at hj
                simp only [Option.map_some, Option.some.injEq] at hj
                subst hj
                obtain ⟨m1, m2⟩ := k2 j b hbj
                have hjn : j < n := by
                  have := (List.getElem?_eq_some_iff.1 hbj).1
                  omega
                rw [l3, List.getElem?_take, if_pos hjn, List.getElem?_drop] at m2
                obtain ⟨u, v1, v2⟩ := q5 _ _ m2
                cases v2
                rw [addr_add]
                simp [World.cell?, q1, Nat.add_assoc, v1, Nat.mod_eq_of_lt m1]
            have hlb : (bs.map UInt8.ofNat).length = n := by rw [List.length_map]; omega
            have hload := Lib.run_loadBytes (P := P) w (bs.map UInt8.ofNat) ⟨p.blk, p.base + off, none⟩ .empty hcell
            rw [hlb] at hload
            have hcc : cs0.length ≤ cc.size - p.base := by omega
            have hv : (variablesAt ⟨p.blk, p.base + off, none⟩ e n).run P w = .ok true w := by
              simp [variablesAt, shape_cells q1, lies_row (P := P) (e := e) (off := p.base + off) (n := n) (cells := cc.size) hcs (by omega)]
            have hrun := unsStr_run (ty := o.type) (k := k) e0 hdd hb hmaxn hv hload
            obtain ⟨s1, s2⟩ := S.freeze (N := N) hl hp hgz (p.base + off) n
            rw [hg] at s1 s2
            refine ⟨φ, .value (.string ⟨ByteArray.empty.data ++ (bs.map UInt8.ofNat).toArray⟩), _, ?_, .value ?_, s1, s2⟩
            · rw [call_builtin hop hc, args_eq e1]
              simp only [builtin, Sem.run_bind]
              erw [hrun]
              rfl
            · have : bs = ofBytes ⟨ByteArray.empty.data ++ (bs.map UInt8.ofNat).toArray⟩ := by
                apply List.ext_getElem?
                intro j
                simp only [ofBytes]
                cases hbj : bs[j]? with
                | none => simp [hbj]
                | some b => simp [hbj, Nat.mod_eq_of_lt (k2 j b hbj).1]
              have hv := VRel.str (esz := esz) (φ := φ) ⟨ByteArray.empty.data ++ (bs.map UInt8.ofNat).toArray⟩
              rw [← this] at hv
              exact hv
    · rename_i k n
      cases hb : Nat.beq n 0 <;> rw [hb] at ha' <;> cases ha'
end
end Go.Am
