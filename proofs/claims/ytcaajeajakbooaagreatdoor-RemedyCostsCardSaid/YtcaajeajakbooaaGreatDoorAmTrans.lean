/-
  Writes into a group of rows keep the simulation.
-/
import Derived.Test.YtcaajeajakbooaaGreatDoorAmHeap
set_option linter.unusedVariables false
set_option linter.unusedSimpArgs false
namespace Go.Am
open Go
section
variable {esz : TypeId → Nat} {φ : Phi} {G : Nat → Prop} {H H' : AHeap}

/-- object i of group g has been written: what was beside it in its group is stale -/
structure Wrote (H H' : AHeap) (i : Nat) (cs : List AVal) (e g : Nat) : Prop where
  next : H'.next = H.next
  objs : ∀ j, H'.objs.get j = if j = i then some (.cells cs e g (H'.grp g).ver) else H.objs.get j
  grpO : ∀ g', g' ≠ g → H'.grps.get g' = H.grps.get g'
  tipi : (H'.grp g).tip = i
  fz : (H'.grp g).fz = false
  dead : ∀ j cs2 e2 v2, j ≠ i → H.objs.get j = some (.cells cs2 e2 g v2) → v2 ≠ (H'.grp g).ver
  vle : (H.grp g).ver ≤ (H'.grp g).ver
  old : ∃ cs0 v0, H.objs.get i = some (.cells cs0 e g v0) ∧ v0 = (H.grp g).ver

theorem store_some {heap : Array Obj} {i o : Nat} {vs : List AVal} (S : Sim esz φ G H heap) (hne : vs ≠ []) (h : H.store i o vs = some H') :
    ∃ cs e g, H.live i = some (cs, e, g) ∧ o + vs.length ≤ cs.length ∧ vs.all flat = true ∧ (H.grp g).fz = false ∧ g ≠ 0 ∧ Wrote H H' i (setAt cs o vs) e g := by
  unfold AHeap.store at h
  cases vs with
  | nil => exact absurd rfl hne
  | cons v vs =>
    simp only at h
    cases hl : H.live i with
    | none => rw [hl] at h; cases h
    | some x =>
      obtain ⟨cs, e, g⟩ := x
      obtain ⟨ver0, ho, hv0⟩ := live_some hl
      rw [hl] at h
      simp only at h
      rcases hgr : H.grp g with ⟨ver, tip, fz⟩
      rw [hgr] at h hv0
      simp only at h hv0
      by_cases hc : (Nat.ble (Nat.add o (v :: vs).length) cs.length && (v :: vs).all flat && !fz && !(Nat.beq g 0)) = true
      · rw [bif_true hc] at h
        simp only [Bool.and_eq_true, Bool.not_eq_true'] at hc
        obtain ⟨⟨⟨c1, c2⟩, c3⟩, c4⟩ := hc
        have hg0 : g ≠ 0 := fun e => by subst e; simp at c4
        refine ⟨cs, e, g, rfl, bleN.1 c1, c2, by rw [hgr]; exact c3, hg0, ?_⟩
        by_cases hf : (Nat.beq tip i && Nat.beq g i) = true
        · rw [bif_true hf] at h
          simp only [Bool.and_eq_true] at hf
          have e1 := beqN.1 hf.1
          have e2 := beqN.1 hf.2
          cases h
          refine ⟨by simp, ?_, ?_, ?_, ?_, ?_, ?_, ⟨cs, ver0, ho, by rw [hgr]; exact hv0⟩⟩
          · intro j; rw [setObj_objs, grp_setObj, hgr]
          · intro g' _; simp
          · rw [grp_setObj, hgr]; exact e1
          · rw [grp_setObj, hgr]; exact c3
          · intro j cs2 e3 v2 hj hjo hv2
            rw [grp_setObj] at hv2
            exact hj ((S.solo j cs2 e3 g v2 hjo hv2 hg0 (by rw [hgr]; exact e1.trans e2.symm)).trans e2)
          · rw [grp_setObj, hgr]; exact Nat.le_refl _
        · rw [bif_false (bool_false hf)] at h
          cases h
          have hgn : ((H.setObj i (.cells (setAt cs o (v :: vs)) e g (Nat.succ ver))).setGrp g ⟨Nat.succ ver, i, false⟩).grp g = ⟨Nat.succ ver, i, false⟩ := by rw [grp_setGrp, if_pos rfl]
          refine ⟨by simp, ?_, ?_, ?_, ?_, ?_, ?_, ⟨cs, ver0, ho, by rw [hgr]; exact hv0⟩⟩
          · intro j; rw [setGrp_objs, setObj_objs, hgn]
          · intro g' hg'; rw [setGrp_grps, if_neg hg', setObj_grps]
          · rw [hgn]
          · rw [hgn]
          · intro j cs2 e3 v2 _ hjo hv2
            rw [hgn] at hv2
            have := S.vle j cs2 e3 g v2 hjo
            rw [hgr] at this
            simp only at hv2 this
            omega
          · rw [hgn, hgr]; exact Nat.le_succ _
      · rw [bif_false (bool_false hc)] at h; cases h

theorem Wrote.grp {i : Nat} {cs : List AVal} {e g : Nat} (W : Wrote H H' i cs e g) {g' : Nat} (h : g' ≠ g) : H'.grp g' = H.grp g' := grp_congr (W.grpO g' h)

theorem Wrote.live_old {i : Nat} {cs : List AVal} {e g : Nat} (W : Wrote H H' i cs e g) {j : Nat} {o : AObj} (hj : j ≠ i) (ho : H'.objs.get j = some o) (hl : isLive H' o) :
    H.objs.get j = some o ∧ isLive H o ∧ grpOf o ≠ some g := by
  rw [W.objs, if_neg hj] at ho
  cases o with
  | cells cs2 e2 g2 v2 =>
    by_cases hg : g2 = g
    · subst hg; exact absurd hl (W.dead j cs2 e2 v2 hj ho)
    · exact ⟨ho, by simpa [isLive, W.grp hg] using hl, fun h => hg (Option.some.inj h)⟩
  | map => exact ⟨ho, trivial, fun h => by cases h⟩
  | siter => exact ⟨ho, trivial, fun h => by cases h⟩

/-- The simulation behind a write of object i into its block. -/
theorem Sim.wrote {heap heap' : Array Obj} {i : Nat} {cs : List AVal} {e g : Nat} {p : PI} (S : Sim esz φ G H heap) (W : Wrote H H' i cs e g) (hp : φ i = some p) (hg0 : g ≠ 0)
    (hsz : heap'.size = heap.size) (hoth : ∀ r, r ≠ p.blk → heap'[r]? = heap[r]?)
    (hr : ORel esz φ H' p heap' (.cells cs e g (H'.grp g).ver)) : Sim esz φ G H' heap' := by
  obtain ⟨cs0, v0, ho0, hv0⟩ := W.old
  have other : ∀ {j : Nat} {o : AObj} {q : PI}, j ≠ i → H'.objs.get j = some o → isLive H' o → φ j = some q → q.blk ≠ p.blk := by
    intro j o q hj ho hl hq hb
    obtain ⟨h1, h2, h3⟩ := W.live_old hj ho hl
    obtain ⟨g', e1, e2⟩ := S.disj j i o _ q p h1 ho0 hq hp h2 hv0 hj hb
    cases e2
    exact h3 e1
  refine ⟨?_, ?_, ?_, ?_, ?_, ?_, ?_, ?_, ?_, ?_, ?_, S.glob⟩
  · intro j o q ho hq hl
    by_cases hj : j = i
    · subst hj
      rw [hp] at hq; cases hq
      rw [W.objs, if_pos rfl] at ho; cases ho
      exact hr
    · obtain ⟨h1, h2, h3⟩ := W.live_old hj ho hl
      refine (S.obj j o q h1 hq h2).mono (.refl φ) (hoth _ (other hj ho hl hq)) ?_
      intro g' hg' hf
      rwa [W.grp (fun e => h3 (by rw [hg', e]))] at hf
  · intro a b oa ob pa pb ha hb hpa hpb la lb hab hbb
    by_cases h1 : a = i
    · by_cases h2 : b = i
      · exact absurd (h1.trans h2.symm) hab
      · subst h1; rw [hp] at hpa; cases hpa
        exact absurd hbb.symm (other h2 hb lb hpb)
    · by_cases h2 : b = i
      · subst h2; rw [hp] at hpb; cases hpb
        exact absurd hbb (other h1 ha la hpa)
      · obtain ⟨x1, x2, _⟩ := W.live_old h1 ha la
        obtain ⟨y1, y2, _⟩ := W.live_old h2 hb lb
        exact S.disj a b oa ob pa pb x1 y1 hpa hpb x2 y2 hab hbb
  · intro a csa ea ga va pa cs' e' v' q ha hva hpa hga ht hv' hq hbb
    by_cases h1 : a = i
    · subst h1
      rw [W.objs, if_pos rfl] at ha; cases ha
      rw [W.tipi] at ht hq
      rw [W.objs, if_pos rfl] at ht; cases ht
      rw [hpa] at hq; cases hq
      exact Nat.le_refl _
    · obtain ⟨x1, x2, x3⟩ := W.live_old h1 ha hva
      have hne : ga ≠ g := fun e => x3 (by rw [e]; rfl)
      rw [W.grp hne] at ht hv' hq
      have hti : (H.grp ga).tip ≠ i := by
        intro e1
        rw [e1, W.objs, if_pos rfl] at ht
        cases ht
        exact hne rfl
      rw [W.objs, if_neg hti] at ht
      exact S.tip a csa ea ga va pa cs' e' v' q x1 x2 hpa hga ht hv' hq hbb
  · intro a csa ea ga va ha hva hga ht
    by_cases h1 : a = i
    · subst h1
      rw [W.objs, if_pos rfl] at ha; cases ha
      rw [W.tipi] at ht; exact ht
    · obtain ⟨x1, x2, x3⟩ := W.live_old h1 ha hva
      have hne : ga ≠ g := fun e => x3 (by rw [e]; rfl)
      rw [W.grp hne] at ht
      exact S.solo a csa ea ga va x1 x2 hga ht
  · intro a csa ea ga va ha
    rw [W.next]
    rw [W.objs] at ha
    split at ha
    · cases ha; exact S.gl i cs0 e g v0 ho0
    · exact S.gl a csa ea ga va ha
  · intro a csa ea ga va ha
    rw [W.objs] at ha
    split at ha
    · cases ha; exact Nat.le_refl _
    · by_cases hne : ga = g
      · subst hne; exact Nat.le_trans (S.vle a csa ea ga va ha) W.vle
      · rw [W.grp hne]; exact S.vle a csa ea ga va ha
  · intro a q hq; rw [hsz]; exact S.bnd a q hq
  · intro a q hq; rw [W.next]; exact S.lt a q hq
  · intro a csa ea ga va q ha hq
    rw [W.objs] at ha
    split at ha
    · rename_i e1; cases ha; subst e1; exact S.base _ cs0 _ _ v0 q ho0 hq
    · exact S.base a csa ea ga va q ha hq
  · intro a csa ea ga va q ha hq hga
    rw [W.objs] at ha
    split at ha
    · rename_i e1; cases ha; subst e1; exact S.grpφ _ cs0 _ _ v0 q ho0 hq hga
    · exact S.grpφ a csa ea ga va q ha hq hga
  · intro a ha
    rw [W.next] at ha
    obtain ⟨x1, x2⟩ := S.fresh a ha
    have hai : a ≠ i := fun e1 => by rw [e1, ho0] at x1; cases x1
    have hag : a ≠ g := fun e1 => by have := S.gl i cs0 e g v0 ho0; omega
    rw [W.objs, if_neg hai, W.grpO a hag]
    exact ⟨x1, x2⟩

theorem Step.wrote {N : Nat} {w w' : World} {i : Nat} {cs : List AVal} {e g : Nat} {p : PI} {heap : Array Obj} (S : Sim esz φ G H heap) (W : Wrote H H' i cs e g) (hp : φ i = some p) (hg0 : g ≠ 0)
    (hsz : w'.heap.size = w.heap.size) (hoth : ∀ r, r ≠ p.blk → w'.heap[r]? = w.heap[r]?) (h1 : w'.os = w.os) (h2 : w'.tape = w.tape) (h3 : w'.output = w.output) :
    Step N φ H w φ H' w' := by
  obtain ⟨cs0, v0, ho0, hv0⟩ := W.old
  refine ⟨.refl φ, ?_, by rw [W.next]; exact Nat.le_refl _, h1, h2, h3, by omega, ?_⟩
  · intro j _ hj
    have hji : j ≠ i := fun e1 => by rw [e1, hp] at hj; cases hj
    have hjg : j ≠ g := fun e1 => by
      obtain ⟨q, hq⟩ := S.grpφ i cs0 e g v0 p ho0 hp hg0
      rw [e1, hq] at hj; cases hj
    exact ⟨hj, by rw [W.objs, if_neg hji], W.grpO j hjg⟩
  · intro r _ hi
    have hrp : r ≠ p.blk := fun e1 => hi ⟨i, _, p, ho0, fun h => hg0 (Option.some.inj h), hp, e1.symm⟩
    refine ⟨hoth r hrp, fun ⟨j, o, q, ho, hgo, hq, hb⟩ => ?_⟩
    rw [W.objs] at ho
    split at ho
    · rename_i e1; subst e1; rw [hp] at hq; cases hq; exact hrp hb.symm
    · exact hi ⟨j, o, q, ho, hgo, hq, hb⟩

theorem Sim.store {P : Program} {N : Nat} {w : World} {i o : Nat} {vs : List AVal} {us : List Value} {p : PI} (S : Sim esz φ G H w.heap) (hs : H.store i o vs = some H') (hp : φ i = some p)
    (hr : VRels esz φ vs us) : ∃ w', (storeCells ⟨p.blk, p.base + o, none⟩ us).run P w = .ok () w' ∧ Sim esz φ G H' w'.heap ∧ Step N φ H w φ H' w' := by
  by_cases hne : vs = []
  · subst hne
    cases hr
    have : H' = H := by simpa [AHeap.store] using hs.symm
    subst this
    exact ⟨w, by simp [storeCells], S, .refl _ _ _ _⟩
  obtain ⟨cs, e, g, hl, hb, hfl, hfz, hg0, W⟩ := store_some S hne hs
  obtain ⟨c, fz, h1, h2, h3, h4, h5, h6⟩ := S.cells hl hp
  have hlen := hr.length
  have hr' := lt_of_get h1
  refine ⟨_, run_storeCells_any P p.blk e fz p.size (h6 hfz hg0) us (p.base + o) 0 c w h1 h3 (by omega) (hr.oneCell hfl), ?_, ?_⟩
  · refine S.wrote W hp hg0 (by simp [World.withObj]) (fun r hne => by rw [withObj_get hr', if_neg (fun e => hne e.symm)]) ?_
    refine ⟨setFrom c (p.base + o) us, fz, by rw [withObj_get hr', if_pos rfl, Nat.add_zero], h2, by rw [setFrom_size]; exact h3, by rw [setAt_length]; exact h4, ?_, fun _ _ => h6 hfz hg0⟩
    intro j v hv
    rw [setAt_get _ _ _ _ hb] at hv
    rw [setFrom_get _ _ _ _ (by omega)]
    by_cases hj : o ≤ j ∧ j < o + vs.length
    · rw [if_pos hj] at hv
      rw [if_pos (by omega), show p.base + j - (p.base + o) = j - o by omega]
      obtain ⟨u, hu, hvr⟩ := hr.get hv
      exact ⟨u, hu, hvr⟩
    · rw [if_neg hj] at hv
      rw [if_neg (by omega)]
      exact h5 j v hv
  · exact Step.wrote S W hp hg0 (by simp [World.withObj]) (fun r hne => by rw [withObj_get hr', if_neg (fun e => hne e.symm)]) rfl rfl rfl
end
end Go.Am
