/-
  Maps, iterators and frozen rows keep the simulation.
-/
import Derived.Test.YtcaajeajakbooaaGreatDoorAmApp
set_option linter.unusedVariables false
set_option linter.unusedSimpArgs false
namespace Go.Am
open Go
section
variable {esz : TypeId → Nat} {φ : Phi} {G : Nat → Prop} {H : AHeap}

theorem isLive_setObj {i : Nat} {o o' : AObj} : isLive (H.setObj i o') o ↔ isLive H o := by cases o <;> simp [isLive, grp_setObj]

/-- another object that is no row of cells (a map, an iterator) takes the place of such an object -/
theorem Sim.setObj {heap : Array Obj} {i : Nat} {o o' : AObj} {p : PI} {ob : Obj} (S : Sim esz φ G H heap) (ho : H.objs.get i = some o) (hp : φ i = some p)
    (hg : grpOf o = none) (hg' : grpOf o' = none) (hr : ORel esz φ H p (heap.setIfInBounds p.blk ob) o') : Sim esz φ G (H.setObj i o') (heap.setIfInBounds p.blk ob) := by
  have hlive : ∀ x : AObj, grpOf x = none → isLive H x := fun x hx => by cases x with
    | cells => cases hx
    | map => trivial
    | siter => trivial
  have old : ∀ {j : Nat} {x : AObj}, j ≠ i → (H.setObj i o').objs.get j = some x → H.objs.get j = some x := fun hj h => by rwa [setObj_objs, if_neg hj] at h
  have notcells : ∀ {cs : List AVal} {e g v : Nat}, (H.setObj i o').objs.get i = some (.cells cs e g v) → False := fun h => by
    rw [setObj_objs, if_pos rfl] at h; cases h; cases hg'
  have other : ∀ {j : Nat} {x : AObj} {q : PI}, j ≠ i → H.objs.get j = some x → isLive H x → φ j = some q → q.blk ≠ p.blk := by
    intro j x q hj hx hl hq hb
    obtain ⟨g, _, e2⟩ := S.disj j i x o q p hx ho hq hp hl (hlive o hg) hj hb
    rw [hg] at e2; cases e2
  refine ⟨?_, ?_, ?_, ?_, ?_, ?_, ?_, ?_, ?_, ?_, ?_, S.glob⟩
  · intro j x q hx hq hl
    by_cases hj : j = i
    · subst hj
      rw [hp] at hq; cases hq
      rw [setObj_objs, if_pos rfl] at hx; cases hx
      exact hr.mono (.refl φ) rfl (fun g hg hf => by rwa [grp_setObj] at hf)
    · have hx' := old hj hx
      have hl' := isLive_setObj.1 hl
      refine (S.obj j x q hx' hq hl').mono (.refl φ) ?_ (fun g _ hf => by rwa [grp_setObj] at hf)
      rw [Array.getElem?_setIfInBounds, if_neg (fun e => other hj hx' hl' hq e.symm)]
  · intro a b oa ob' pa pb ha hb hpa hpb la lb hab hbb
    by_cases h1 : a = i
    · subst h1
      rw [hp] at hpa; cases hpa
      exact absurd hbb.symm (other (fun e => hab e.symm) (old (fun e => hab e.symm) hb) (isLive_setObj.1 lb) hpb)
    · by_cases h2 : b = i
      · subst h2
        rw [hp] at hpb; cases hpb
        exact absurd hbb (other hab (old hab ha) (isLive_setObj.1 la) hpa)
      · exact S.disj a b oa ob' pa pb (old h1 ha) (old h2 hb) hpa hpb (isLive_setObj.1 la) (isLive_setObj.1 lb) hab hbb
  · intro a cs e g v q cs' e' v' q' ha hv hq hg0 ht hv' hq' hbb
    rw [grp_setObj] at hv ht hv' hq'
    have h1 : a ≠ i := fun e => by subst e; exact notcells ha
    have h2 : (H.grp g).tip ≠ i := fun e => by rw [e] at ht; exact notcells ht
    exact S.tip a cs e g v q cs' e' v' q' (old h1 ha) hv hq hg0 (old h2 ht) hv' hq' hbb
  · intro a cs e g v ha hv hg0 ht
    rw [grp_setObj] at hv ht
    have h1 : a ≠ i := fun e => by subst e; exact notcells ha
    exact S.solo a cs e g v (old h1 ha) hv hg0 ht
  · intro a cs e g v ha
    have h1 : a ≠ i := fun e => by subst e; exact notcells ha
    rw [setObj_next]; exact S.gl a cs e g v (old h1 ha)
  · intro a cs e g v ha
    have h1 : a ≠ i := fun e => by subst e; exact notcells ha
    rw [grp_setObj]; exact S.vle a cs e g v (old h1 ha)
  · intro a q hq; rw [Array.size_setIfInBounds]; exact S.bnd a q hq
  · intro a q hq; rw [setObj_next]; exact S.lt a q hq
  · intro a cs e g v q ha hq
    have h1 : a ≠ i := fun e => by subst e; exact notcells ha
    exact S.base a cs e g v q (old h1 ha) hq
  · intro a cs e g v q ha hq hg0
    have h1 : a ≠ i := fun e => by subst e; exact notcells ha
    exact S.grpφ a cs e g v q (old h1 ha) hq hg0
  · intro a ha
    rw [setObj_next] at ha
    obtain ⟨x1, x2⟩ := S.fresh a ha
    have hai : a ≠ i := fun e1 => by rw [e1, ho] at x1; cases x1
    rw [setObj_objs, if_neg hai, setObj_grps]
    exact ⟨x1, x2⟩

theorem Step.setObj {N : Nat} {w w' : World} {i : Nat} {o o' : AObj} {p : PI} {ob : Obj} (ho : H.objs.get i = some o) (hp : φ i = some p) (hg : grpOf o = none) (hg' : grpOf o' = none)
    (hh : w'.heap = w.heap.setIfInBounds p.blk ob) (k1 : w'.os = w.os) (k2 : w'.tape = w.tape) (k3 : w'.output = w.output) : Step N φ H w φ (H.setObj i o') w' where
  ext := .refl φ
  ph := fun j _ hj => by
    have hji : j ≠ i := fun e => by rw [e, hp] at hj; cases hj
    exact ⟨hj, by rw [setObj_objs, if_neg hji], by rw [setObj_grps]⟩
  next := by rw [setObj_next]; exact Nat.le_refl _
  os := k1
  tape := k2
  output := k3
  size := by rw [hh]; simp
  heap := fun r _ hi => by
    have hrp : r ≠ p.blk := fun e => hi ⟨i, o, p, ho, by rw [hg]; simp, hp, e.symm⟩
    refine ⟨by rw [hh, Array.getElem?_setIfInBounds, if_neg (fun e => hrp e.symm)], fun ⟨j, x, q, hx, hgx, hq, hb⟩ => ?_⟩
    rw [setObj_objs] at hx
    split at hx
    · rename_i e; subst e; rw [hp] at hq; cases hq; exact hrp hb.symm
    · exact hi ⟨j, x, q, hx, hgx, hq, hb⟩

/-- a row of cells becomes bytes that a string shares -/
theorem Sim.freeze {w : World} {N : Nat} {i : Nat} {cs : List AVal} {e g : Nat} {p : PI} (S : Sim esz φ G H w.heap) (hl : H.live i = some (cs, e, g)) (hp : φ i = some p) (hg0 : g ≠ 0) (o n : Nat) :
    Sim esz φ G (H.setGrp g ⟨(H.grp g).ver, (H.grp g).tip, true⟩) (w.freeze ⟨p.blk, o, none⟩ n).heap ∧
    Step N φ H w φ (H.setGrp g ⟨(H.grp g).ver, (H.grp g).tip, true⟩) (w.freeze ⟨p.blk, o, none⟩ n) := by
  obtain ⟨ver, hob, hver⟩ := live_some hl
  obtain ⟨c, fz, h1, h2, h3, h4, h5, h6⟩ := S.cells hl hp
  have hgrp : ∀ g', ((H.setGrp g ⟨(H.grp g).ver, (H.grp g).tip, true⟩).grp g').ver = (H.grp g').ver ∧ ((H.setGrp g ⟨(H.grp g).ver, (H.grp g).tip, true⟩).grp g').tip = (H.grp g').tip := by
    intro g'
    rw [grp_setGrp]
    by_cases h : g' = g
    · subst h; simp
    · simp [h]
  have hlive : ∀ x : AObj, isLive (H.setGrp g ⟨(H.grp g).ver, (H.grp g).tip, true⟩) x ↔ isLive H x := by
    intro x
    cases x with
    | cells a b c d => simp only [isLive, (hgrp c).1]
    | map => exact Iff.rfl
    | siter => exact Iff.rfl
  have hheap : ∃ fz', (w.freeze ⟨p.blk, o, none⟩ n).heap[p.blk]? = some (.cells c e fz') := by
    unfold World.freeze
    split
    · exact ⟨fz, h1⟩
    · exact ⟨_, by simp only [Array.getElem?_modify, if_true, h1, Option.map_some]; rfl⟩
  have hoth : ∀ r, r ≠ p.blk → (w.freeze ⟨p.blk, o, none⟩ n).heap[r]? = w.heap[r]? := by
    intro r hr
    unfold World.freeze
    split
    · rfl
    · simp only [Array.getElem?_modify]; rw [if_neg (fun e => hr e.symm)]
  have hsz : (w.freeze ⟨p.blk, o, none⟩ n).heap.size = w.heap.size := by unfold World.freeze; split <;> simp
  have hw : (w.freeze ⟨p.blk, o, none⟩ n).os = w.os ∧ (w.freeze ⟨p.blk, o, none⟩ n).tape = w.tape ∧ (w.freeze ⟨p.blk, o, none⟩ n).output = w.output := by
    unfold World.freeze; split <;> exact ⟨rfl, rfl, rfl⟩
  constructor
  · refine ⟨?_, ?_, ?_, ?_, ?_, ?_, ?_, ?_, ?_, ?_, ?_, S.glob⟩
    · intro j x q hx hq hlv
      rw [setGrp_objs] at hx
      have hlv' := (hlive x).1 hlv
      have hor := S.obj j x q hx hq hlv'
      by_cases hb : q.blk = p.blk
      · have hgo : grpOf x = some g := by
          by_cases hji : j = i
          · subst hji; rw [hob] at hx; cases hx; rfl
          · obtain ⟨g', e1, e2⟩ := S.disj j i x _ q p hx hob hq hp hlv' hver hji hb
            cases e2; exact e1
        cases x with
        | cells cj ej gj vj =>
          cases hgo
          obtain ⟨c', fz', k1, k2, k3, k4, k5, _⟩ := hor
          rw [hb, h1] at k1
          cases k1
          obtain ⟨fz2, hz⟩ := hheap
          refine ⟨c, fz2, by rw [hb]; exact hz, k2, k3, k4, k5, fun hf => ?_⟩
          rw [grp_setGrp, if_pos rfl] at hf; cases hf
        | map => cases hgo
        | siter => cases hgo
      · refine hor.mono (.refl φ) (hoth _ hb) (fun g' _ hf => ?_)
        rw [grp_setGrp] at hf
        split at hf
        · cases hf
        · exact hf
    · intro a b oa ob pa pb ha hb hpa hpb la lb
      rw [setGrp_objs] at ha hb
      exact S.disj a b oa ob pa pb ha hb hpa hpb ((hlive _).1 la) ((hlive _).1 lb)
    · intro a cs e g v q cs' e' v' q' ha hv hq hg0 ht hv' hq'
      rw [(hgrp g).1] at hv hv'
      rw [(hgrp g).2] at ht hq'
      rw [setGrp_objs] at ha ht
      exact S.tip a cs e g v q cs' e' v' q' ha hv hq hg0 ht hv' hq'
    · intro a cs e g v ha hv hg0 ht
      rw [(hgrp g).1] at hv
      rw [(hgrp g).2] at ht
      rw [setGrp_objs] at ha
      exact S.solo a cs e g v ha hv hg0 ht
    · intro a cs e g v ha; rw [setGrp_objs] at ha; rw [setGrp_next]; exact S.gl a cs e g v ha
    · intro a cs e g v ha; rw [setGrp_objs] at ha; rw [(hgrp g).1]; exact S.vle a cs e g v ha
    · intro a q hq; rw [hsz]; exact S.bnd a q hq
    · intro a q hq; rw [setGrp_next]; exact S.lt a q hq
    · intro a cs e g v q ha hq; rw [setGrp_objs] at ha; exact S.base a cs e g v q ha hq
    · intro a cs e g v q ha hq hg0; rw [setGrp_objs] at ha; exact S.grpφ a cs e g v q ha hq hg0
    · intro a ha
      rw [setGrp_next] at ha
      obtain ⟨x1, x2⟩ := S.fresh a ha
      have := S.gl i cs e g ver hob
      rw [setGrp_objs, setGrp_grps, if_neg (by omega)]
      exact ⟨x1, x2⟩
  · refine ⟨.refl φ, ?_, by rw [setGrp_next]; exact Nat.le_refl _, hw.1, hw.2.1, hw.2.2, by omega, ?_⟩
    · intro j _ hj
      have hjg : j ≠ g := fun e1 => by
        obtain ⟨q, hq⟩ := S.grpφ i cs e g ver p hob hp hg0
        rw [e1, hq] at hj; cases hj
      exact ⟨hj, by rw [setGrp_objs], by rw [setGrp_grps, if_neg hjg]⟩
    · intro r _ hi
      have hrp : r ≠ p.blk := fun e1 => hi ⟨i, _, p, hob, fun h => hg0 (Option.some.inj h), hp, e1.symm⟩
      refine ⟨hoth r hrp, fun ⟨j, x, q, hx, hgx, hq, hb⟩ => hi ⟨j, x, q, by rwa [setGrp_objs] at hx, hgx, hq, hb⟩⟩

/-- a draw changes nothing -/
theorem Step.same {N : Nat} {w w1 : World} {φ' : Phi} {H' : AHeap} {w' : World} (h : SameMem w w1) (s : Step N φ H w1 φ' H' w') : Step N φ H w φ' H' w' where
  ext := s.ext
  ph := s.ph
  next := s.next
  os := s.os.trans h.os
  tape := s.tape.trans h.tape
  output := s.output.trans h.output
  size := by rw [← h.heap]; exact s.size
  heap := by rw [← h.heap]; exact s.heap
theorem Step.sameR {N : Nat} {w : World} {φ' : Phi} {H' : AHeap} {w' w1 : World} (s : Step N φ H w φ' H' w') (h : SameMem w' w1) : Step N φ H w φ' H' w1 where
  ext := s.ext
  ph := s.ph
  next := s.next
  os := h.os.trans s.os
  tape := h.tape.trans s.tape
  output := h.output.trans s.output
  size := by rw [h.heap]; exact s.size
  heap := by rw [h.heap]; exact s.heap
end
end Go.Am
