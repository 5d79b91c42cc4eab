/-
  Append keeps the simulation.
-/
import Derived.Test.YtcaajeajakbooaaGreatDoorAmTrans
set_option linter.unusedVariables false
set_option linter.unusedSimpArgs false
namespace Go.Am
open Go
section
variable {esz : TypeId → Nat} {φ : Phi} {G : Nat → Prop} {H : AHeap}

noncomputable def appHeap (H : AHeap) (cs : List AVal) (e g ver : Nat) : AHeap := (H.newObj (.cells cs e g ver)).setGrp g ⟨ver, H.next, false⟩
theorem appHeap_next (H : AHeap) (cs : List AVal) (e g ver : Nat) : (appHeap H cs e g ver).next = H.next + 1 := by simp [appHeap]
theorem appHeap_objs (H : AHeap) (cs : List AVal) (e g ver j : Nat) : (appHeap H cs e g ver).objs.get j = if j = H.next then some (.cells cs e g ver) else H.objs.get j := by simp [appHeap]
theorem appHeap_grps (H : AHeap) (cs : List AVal) (e g ver j : Nat) : (appHeap H cs e g ver).grps.get j = if j = g then some ⟨ver, H.next, false⟩ else H.grps.get j := by simp [appHeap]
theorem appHeap_grp (H : AHeap) (cs : List AVal) (e g ver j : Nat) : (appHeap H cs e g ver).grp j = if j = g then ⟨ver, H.next, false⟩ else H.grp j := by
  unfold AHeap.grp; rw [appHeap_grps]; by_cases h : j = g <;> simp [h]
theorem appHeap_live {cs : List AVal} {e g ver : Nat} (hv : ver = (H.grp g).ver) (o : AObj) : isLive (appHeap H cs e g ver) o ↔ isLive H o := by
  cases o with
  | cells a b c d =>
    simp only [isLive, appHeap_grp]
    by_cases h : c = g
    · subst h; rw [if_pos rfl, hv]
    · rw [if_neg h]
  | map => exact Iff.rfl
  | siter => exact Iff.rfl

def lenOf : AObj → Nat
  | .cells cs _ _ _ => cs.length
  | _ => 0

theorem Sim.app {heap heap' : Array Obj} (S : Sim esz φ G H heap) {i : Nat} {cs0 : List AVal} {e g ver : Nat} {p px : PI} {cs : List AVal}
    (hl : H.objs.get i = some (.cells cs0 e g ver)) (hp : φ i = some p) (hg0 : g ≠ 0) (hv : ver = (H.grp g).ver)
    (hx : ORel esz (lnk φ H.next px) (appHeap H cs e g ver) px heap' (.cells cs e g ver))
    (hold : ∀ j o q, H.objs.get j = some o → φ j = some q → isLive H o → ORel esz (lnk φ H.next px) (appHeap H cs e g ver) q heap' o)
    (hdis : ∀ j o q, H.objs.get j = some o → φ j = some q → isLive H o → q.blk = px.blk → grpOf o = some g ∧ q.base + lenOf o ≤ px.base + cs.length)
    (hsz : heap.size ≤ heap'.size) (hpx : px.blk < heap'.size) (hbase : px.base % esz px.elem = 0) : Sim esz (lnk φ H.next px) G (appHeap H cs e g ver) heap' := by
  have hn : φ H.next = none := by
    cases h : φ H.next with
    | none => rfl
    | some q => exact absurd (S.lt _ _ h) (Nat.lt_irrefl _)
  have ex := link_ext (p := px) hn
  have hgl := S.gl i cs0 e g ver hl
  have obj_old : ∀ {j : Nat} {o : AObj}, j ≠ H.next → (appHeap H cs e g ver).objs.get j = some o → H.objs.get j = some o := fun hj h => by rwa [appHeap_objs, if_neg hj] at h
  refine ⟨?_, ?_, ?_, ?_, ?_, ?_, ?_, ?_, ?_, ?_, ?_, ?_⟩
  · intro j o q ho hq hlv
    by_cases hj : j = H.next
    · subst hj
      rw [link_self] at hq; cases hq
      rw [appHeap_objs, if_pos rfl] at ho; cases ho
      exact hx
    · rw [link_other hj] at hq
      exact hold j o q (obj_old hj ho) hq ((appHeap_live hv o).1 hlv)
  · intro a b oa ob pa pb ha hb hpa hpb la lb hab hbb
    by_cases h1 : a = H.next
    · subst h1
      rw [link_self] at hpa; cases hpa
      rw [appHeap_objs, if_pos rfl] at ha; cases ha
      rw [link_other (fun e => hab e.symm)] at hpb
      exact ⟨g, rfl, (hdis b ob pb (obj_old (fun e => hab e.symm) hb) hpb ((appHeap_live hv ob).1 lb) hbb.symm).1⟩
    · rw [link_other h1] at hpa
      by_cases h2 : b = H.next
      · subst h2
        rw [link_self] at hpb; cases hpb
        rw [appHeap_objs, if_pos rfl] at hb; cases hb
        exact ⟨g, (hdis a oa pa (obj_old h1 ha) hpa ((appHeap_live hv oa).1 la) hbb).1, rfl⟩
      · rw [link_other h2] at hpb
        exact S.disj a b oa ob pa pb (obj_old h1 ha) (obj_old h2 hb) hpa hpb ((appHeap_live hv oa).1 la) ((appHeap_live hv ob).1 lb) hab hbb
  · intro a csa ea ga va pa cs' e' v' q ha hva hpa hga ht hv' hq hbb
    by_cases hgg : ga = g
    · subst hgg
      rw [appHeap_grp, if_pos rfl] at ht hq
      simp only at ht hq
      rw [link_self] at hq; cases hq
      rw [appHeap_objs, if_pos rfl] at ht; cases ht
      by_cases h1 : a = H.next
      · subst h1
        rw [link_self] at hpa; cases hpa
        rw [appHeap_objs, if_pos rfl] at ha; cases ha
        exact Nat.le_refl _
      · rw [link_other h1] at hpa
        exact (hdis a _ pa (obj_old h1 ha) hpa ((appHeap_live hv _).1 hva) hbb).2
    · rw [appHeap_grp, if_neg hgg] at ht hq hv' hva
      have h1 : a ≠ H.next := fun e1 => by rw [e1, appHeap_objs, if_pos rfl] at ha; cases ha; exact hgg rfl
      have h2 : (H.grp ga).tip ≠ H.next := fun e1 => by rw [e1, appHeap_objs, if_pos rfl] at ht; cases ht; exact hgg rfl
      rw [link_other h1] at hpa
      rw [link_other h2] at hq
      exact S.tip a csa ea ga va pa cs' e' v' q (obj_old h1 ha) hva hpa hga (obj_old h2 ht) hv' hq hbb
  · intro a csa ea ga va ha hva hga ht
    by_cases hgg : ga = g
    · subst hgg
      rw [appHeap_grp, if_pos rfl] at ht
      simp only at ht
      omega
    · rw [appHeap_grp, if_neg hgg] at ht hva
      have h1 : a ≠ H.next := fun e1 => by rw [e1, appHeap_objs, if_pos rfl] at ha; cases ha; exact hgg rfl
      exact S.solo a csa ea ga va (obj_old h1 ha) hva hga ht
  · intro a csa ea ga va ha
    rw [appHeap_next]
    by_cases h1 : a = H.next
    · rw [h1, appHeap_objs, if_pos rfl] at ha; cases ha; omega
    · exact Nat.lt_succ_of_lt (S.gl a csa ea ga va (obj_old h1 ha))
  · intro a csa ea ga va ha
    rw [appHeap_grp]
    by_cases h1 : a = H.next
    · rw [h1, appHeap_objs, if_pos rfl] at ha; cases ha; rw [if_pos rfl]; exact Nat.le_refl _
    · have := S.vle a csa ea ga va (obj_old h1 ha)
      by_cases hgg : ga = g
      · subst hgg; rw [if_pos rfl]; simpa [hv] using this
      · rw [if_neg hgg]; exact this
  · intro a q hq
    by_cases h1 : a = H.next
    · subst h1; rw [link_self] at hq; cases hq; exact hpx
    · rw [link_other h1] at hq; exact Nat.lt_of_lt_of_le (S.bnd a q hq) hsz
  · intro a q hq
    rw [appHeap_next]
    by_cases h1 : a = H.next
    · omega
    · rw [link_other h1] at hq; exact Nat.lt_succ_of_lt (S.lt a q hq)
  · intro a csa ea ga va q ha hq
    by_cases h1 : a = H.next
    · subst h1; rw [link_self] at hq; cases hq; exact hbase
    · rw [link_other h1] at hq; exact S.base a csa ea ga va q (obj_old h1 ha) hq
  · intro a csa ea ga va q ha hq hga
    by_cases h1 : a = H.next
    · rw [h1, appHeap_objs, if_pos rfl] at ha; cases ha
      obtain ⟨r, hr⟩ := S.grpφ i cs0 e g ver p hl hp hg0
      exact ⟨r, ex _ _ hr⟩
    · rw [link_other h1] at hq
      obtain ⟨r, hr⟩ := S.grpφ a csa ea ga va q (obj_old h1 ha) hq hga
      exact ⟨r, ex _ _ hr⟩
  · intro a ha
    rw [appHeap_next] at ha
    obtain ⟨x1, x2⟩ := S.fresh a (by omega)
    rw [appHeap_objs, if_neg (by omega), appHeap_grps, if_neg (by omega)]
    exact ⟨x1, x2⟩
  · intro g' hg'
    obtain ⟨q, h1, h2⟩ := S.glob g' hg'
    exact ⟨q, ex _ _ h1, h2⟩

theorem Step.app {N : Nat} {w w' : World} {heap : Array Obj} (S : Sim esz φ G H heap) {i : Nat} {cs0 : List AVal} {e g ver : Nat} {p px : PI} {cs : List AVal}
    (hl : H.objs.get i = some (.cells cs0 e g ver)) (hp : φ i = some p) (hg0 : g ≠ 0) (hN : N ≤ H.next)
    (hoth : ∀ r, r < w.heap.size → r ≠ p.blk → w'.heap[r]? = w.heap[r]?) (hpx : px.blk = p.blk ∨ w.heap.size ≤ px.blk) (hsz : w.heap.size ≤ w'.heap.size)
    (h1 : w'.os = w.os) (h2 : w'.tape = w.tape) (h3 : w'.output = w.output) : Step N φ H w (lnk φ H.next px) (appHeap H cs e g ver) w' := by
  have hn : φ H.next = none := by
    cases h : φ H.next with
    | none => rfl
    | some q => exact absurd (S.lt _ _ h) (Nat.lt_irrefl _)
  refine ⟨link_ext hn, ?_, by rw [appHeap_next]; omega, h1, h2, h3, hsz, ?_⟩
  · intro j hj hjn
    have hjg : j ≠ g := fun e1 => by
      obtain ⟨q, hq⟩ := S.grpφ i cs0 e g ver p hl hp hg0
      rw [e1, hq] at hjn; cases hjn
    exact ⟨by rw [link_other (by omega)]; exact hjn, by rw [appHeap_objs, if_neg (by omega)], by rw [appHeap_grps, if_neg hjg]⟩
  · intro r hr hi
    have hrp : r ≠ p.blk := fun e1 => hi ⟨i, _, p, hl, fun h => hg0 (Option.some.inj h), hp, e1.symm⟩
    refine ⟨hoth r hr hrp, fun ⟨j, o, q, ho, hgo, hq, hb⟩ => ?_⟩
    by_cases hj : j = H.next
    · subst hj; rw [link_self] at hq; cases hq
      rcases hpx with h | h
      · exact hrp (by rw [← hb, h])
      · omega
    · rw [link_other hj] at hq
      rw [appHeap_objs, if_neg hj] at ho
      exact hi ⟨j, o, q, ho, hgo, hq, hb⟩

/-- append in place: the new cells lie behind all that is known of the block -/
theorem Sim.appRoom {P : Program} {N : Nat} {w : World} {i o : Nat} {cs : List AVal} {e g : Nat} {vs : List AVal} {us : List Value} {p : PI} (S : Sim esz φ G H w.heap)
    (hl : H.live i = some (cs, e, g)) (hp : φ i = some p) (hg0 : g ≠ 0) (hfz : (H.grp g).fz = false) (htip : (H.grp g).tip = i) (ho : o ≤ cs.length) (hmod : o % esz p.elem = 0)
    (hr : VRels esz φ vs us) (hfl : vs.all flat = true) (hroom : p.base + cs.length + us.length ≤ p.size) (hN : N ≤ H.next) :
    ∃ w', (storeCells ⟨p.blk, p.base + cs.length, none⟩ us).run P w = .ok () w' ∧
      Sim esz (lnk φ H.next ⟨p.blk, p.base + o, p.size, p.elem⟩) G (appHeap H (cs.drop o ++ vs) e g (H.grp g).ver) w'.heap ∧
      Step N φ H w (lnk φ H.next ⟨p.blk, p.base + o, p.size, p.elem⟩) (appHeap H (cs.drop o ++ vs) e g (H.grp g).ver) w' := by
  obtain ⟨ver, hob, hver⟩ := live_some hl
  subst hver
  obtain ⟨c, fz, h1, h2, h3, h4, h5, h6⟩ := S.cells hl hp
  have hlen := hr.length
  have hr' := lt_of_get h1
  have hn : φ H.next = none := by
    cases h : φ H.next with
    | none => rfl
    | some q => exact absurd (S.lt _ _ h) (Nat.lt_irrefl _)
  have ex := link_ext (p := ⟨p.blk, p.base + o, p.size, p.elem⟩) hn
  refine ⟨_, run_storeCells_any P p.blk e fz p.size (h6 hfz hg0) us (p.base + cs.length) 0 c w h1 h3 (by omega) (hr.oneCell hfl), ?_, ?_⟩
  · refine S.app (i := i) (p := p) hob hp hg0 rfl ?_ ?_ ?_ (by simp [World.withObj]) (by simpa [World.withObj] using hr') ?_
    · refine ⟨setFrom c (p.base + cs.length + 0) us, fz, by rw [withObj_get hr', if_pos rfl], h2, by rw [setFrom_size]; exact h3, by simp; omega, ?_, fun _ _ => h6 hfz hg0⟩
      intro j v hv
      simp only [Nat.add_zero]
      rw [setFrom_get _ _ _ _ (by omega)]
      by_cases hj : j < cs.length - o
      · rw [List.getElem?_append_left (by simpa using hj), List.getElem?_drop] at hv
        rw [if_neg (by omega)]
        obtain ⟨u, hu, hvr⟩ := h5 (o + j) v hv
        exact ⟨u, by rw [show p.base + o + j = p.base + (o + j) by omega]; exact hu, hvr.mono ex⟩
      · rw [List.getElem?_append_right (by simp; omega), List.length_drop] at hv
        obtain ⟨u, hu, hvr⟩ := hr.get hv
        have hju : j - (cs.length - o) < us.length := by
          rcases Nat.lt_or_ge (j - (cs.length - o)) us.length with h | h
          · exact h
          · rw [List.getElem?_eq_none h] at hu; cases hu
        rw [if_pos (by omega), show p.base + o + j - (p.base + cs.length) = j - (cs.length - o) by omega]
        exact ⟨u, hu, hvr.mono ex⟩
    · intro j oj q hoj hq hlv
      by_cases hb : q.blk = p.blk
      · -- the same group: all that is known ends before the new cells
        have hgo : grpOf oj = some g := by
          by_cases hji : j = i
          · subst hji; rw [hob] at hoj; cases hoj; rfl
          · obtain ⟨g', e1, e2⟩ := S.disj j i oj _ q p hoj hob hq hp hlv rfl hji hb
            cases e2; exact e1
        cases oj with
        | cells cj ej gj vj =>
          cases hgo
          have hle := S.tip j cj ej g vj q cs e _ p hoj hlv hq hg0 (by rw [htip]; exact hob) rfl (by rw [htip]; exact hp) hb
          obtain ⟨c', fz', k1, k2, k3, k4, k5, k6⟩ := S.obj j _ q hoj hq hlv
          rw [hb, h1] at k1
          cases k1
          refine ⟨setFrom c (p.base + cs.length + 0) us, fz, by rw [hb, withObj_get hr', if_pos rfl], k2, by rw [setFrom_size]; exact k3, k4, ?_, fun hf hg => ?_⟩
          · intro m v hv
            obtain ⟨u, hu, hvr⟩ := k5 m v hv
            have hm : m < cj.length := by
              rcases Nat.lt_or_ge m cj.length with h | h
              · exact h
              · rw [List.getElem?_eq_none h] at hv; cases hv
            refine ⟨u, ?_, hvr.mono ex⟩
            rw [setFrom_get _ _ _ _ (by omega), if_neg (by omega)]
            exact hu
          · exact k6 hfz hg
        | map => cases hgo
        | siter => cases hgo
      · refine (S.obj j oj q hoj hq hlv).mono ex (by rw [withObj_get hr', if_neg (fun e => hb e.symm)]) ?_
        intro g' hg' hf
        rw [appHeap_grp] at hf
        by_cases hgg : g' = g
        · subst hgg; exact hfz
        · rwa [if_neg hgg] at hf
    · intro j oj q hoj hq hlv hb
      have hgo : grpOf oj = some g := by
        by_cases hji : j = i
        · subst hji; rw [hob] at hoj; cases hoj; rfl
        · obtain ⟨g', e1, e2⟩ := S.disj j i oj _ q p hoj hob hq hp hlv rfl hji hb
          cases e2; exact e1
      refine ⟨hgo, ?_⟩
      cases oj with
      | cells cj ej gj vj =>
        cases hgo
        have hle := S.tip j cj ej g vj q cs e _ p hoj hlv hq hg0 (by rw [htip]; exact hob) rfl (by rw [htip]; exact hp) hb
        simp [lenOf]; omega
      | map => cases hgo
      | siter => cases hgo
    · have := S.base i cs e g _ p hob hp
      show (p.base + o) % esz p.elem = 0
      rw [Nat.add_mod, this, hmod]; simp
  · exact Step.app S hob hp hg0 hN (fun r hr hne => by rw [withObj_get hr', if_neg (fun e => hne e.symm)]) (.inl rfl) (by simp [World.withObj]) rfl rfl rfl

/-- append into a new block -/
theorem Sim.appNew {N : Nat} {w w' : World} {i o : Nat} {cs : List AVal} {e g : Nat} {vs : List AVal} {p : PI} {c : Array Value} (S : Sim esz φ G H w.heap)
    (hl : H.live i = some (cs, e, g)) (hp : φ i = some p) (hg0 : g ≠ 0) (hfz : (H.grp g).fz = false)
    (hc : ∀ (j : Nat) (v : AVal), (cs.drop o ++ vs)[j]? = some v → ∃ u, c[j]? = some u ∧ VRel esz φ v u) (hcl : (cs.drop o ++ vs).length ≤ c.size)
    (hh : w'.heap = w.heap.push (.cells c e (0, 0))) (k1 : w'.os = w.os) (k2 : w'.tape = w.tape) (k3 : w'.output = w.output) (hN : N ≤ H.next) :
      Sim esz (lnk φ H.next ⟨w.heap.size, 0, c.size, e⟩) G (appHeap H (cs.drop o ++ vs) e g (H.grp g).ver) w'.heap ∧
      Step N φ H w (lnk φ H.next ⟨w.heap.size, 0, c.size, e⟩) (appHeap H (cs.drop o ++ vs) e g (H.grp g).ver) w' := by
  obtain ⟨ver, hob, hver⟩ := live_some hl
  subst hver
  have hn : φ H.next = none := by
    cases h : φ H.next with
    | none => rfl
    | some q => exact absurd (S.lt _ _ h) (Nat.lt_irrefl _)
  have ex := link_ext (p := ⟨w.heap.size, 0, c.size, e⟩) hn
  refine ⟨?_, ?_⟩
  · rw [hh]
    refine S.app (i := i) (p := p) hob hp hg0 rfl ?_ ?_ ?_ (by simp) (by simp) (Nat.zero_mod _)
    · refine ⟨c, (0, 0), by simp, rfl, rfl, by simpa using hcl, ?_, fun _ _ q _ h => by omega⟩
      intro j v hv
      obtain ⟨u, hu, hr⟩ := hc j v hv
      exact ⟨u, by simpa using hu, hr.mono ex⟩
    · intro j oj q hoj hq hlv
      have hb := S.bnd j q hq
      refine (S.obj j oj q hoj hq hlv).mono ex (by rw [Array.getElem?_push, if_neg (by omega)]) ?_
      intro g' hg' hf
      rw [appHeap_grp] at hf
      by_cases hgg : g' = g
      · subst hgg; exact hfz
      · rwa [if_neg hgg] at hf
    · intro j oj q hoj hq _ hb
      have := S.bnd j q hq
      simp only at hb
      omega
  · exact Step.app S hob hp hg0 hN (fun r hr _ => by rw [hh, Array.getElem?_push, if_neg (by omega)]) (.inr (Nat.le_refl _)) (by rw [hh]; simp) k1 k2 k3
end
end Go.Am
