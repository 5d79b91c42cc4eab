/-
  Every operation of the abstract machine is one of the model.
-/
import Derived.Test.YtcaajeajakbooaaGreatDoorAmOps17
set_option linter.unusedVariables false
set_option linter.unusedSimpArgs false
namespace Go.Am
open Go

/-! ### which acts a kind has -/
def Act.okV : Act → Bool | .bad | .val _ => true | _ => false
def Act.okR : Act → Bool | .bad | .val _ | .rd _ => true | _ => false
def Act.okN : Act → Bool | .bad | .new .. => true | _ => false
def Act.okE : Act → Bool | .bad | .eff _ => true | _ => false
def Act.okVE : Act → Bool | .bad | .val _ | .eff _ => true | _ => false
theorem okV_some (v : Option AVal) : (someVal v).okV = true := by cases v <;> rfl
theorem okV_mapB (f : Bool → Bool) (r : Option Bool) : (mapB f r).okV = true := by cases r <;> rfl
theorem okN_cells (v : Nat → AVal) (cs : List AVal) (e : TypeId) : (newCells v cs e).okN = true := rfl
theorem Act.okV_R {a : Act} (h : a.okV = true) : a.okR = true := by cases a <;> first | rfl | cases h
theorem ok_bif {p : Act → Bool} {b : Bool} {x y : Act} (hx : p x = true) (hy : p y = true) : p (bif b then x else y) = true := by cases b <;> assumption

theorem okV_Mov  (vs : List AVal) : (aMov  vs).okV = true := by
  unfold aMov; repeat' (first | rfl | exact okV_some _ | exact okV_mapB _ _ | exact Act.okV_R (okV_some _) | apply ok_bif | split)
theorem okV_Pick  (vs : List AVal) : (aPick  vs).okV = true := by
  unfold aPick; repeat' (first | rfl | exact okV_some _ | exact okV_mapB _ _ | exact Act.okV_R (okV_some _) | apply ok_bif | split)
theorem okV_Build (z : List AVal) (ps : List (Nat × Nat)) (vs : List AVal) : (aBuild z ps vs).okV = true := by
  unfold aBuild; repeat' (first | rfl | exact okV_some _ | exact okV_mapB _ _ | exact Act.okV_R (okV_some _) | apply ok_bif | split)
theorem okV_NilChk  (vs : List AVal) : (aNilChk  vs).okV = true := by
  unfold aNilChk; repeat' (first | rfl | exact okV_some _ | exact okV_mapB _ _ | exact Act.okV_R (okV_some _) | apply ok_bif | split)
theorem okV_Bin (op : BinOp) (e : EqK) (vs : List AVal) : (aBin op e vs).okV = true := by
  unfold aBin; repeat' (first | rfl | exact okV_some _ | exact okV_mapB _ _ | exact Act.okV_R (okV_some _) | apply ok_bif | split)
theorem okV_Un (op : UnOp) (vs : List AVal) : (aUn op vs).okV = true := by
  unfold aUn; repeat' (first | rfl | exact okV_some _ | exact okV_mapB _ _ | exact Act.okV_R (okV_some _) | apply ok_bif | split)
theorem okV_Ifc (t : TypeId) (vs : List AVal) : (aIfc t vs).okV = true := by
  unfold aIfc; repeat' (first | rfl | exact okV_some _ | exact okV_mapB _ _ | exact Act.okV_R (okV_some _) | apply ok_bif | split)
theorem okV_Clos (f : FuncId) (n : Nat) (vs : List AVal) : (aClos f n vs).okV = true := by
  unfold aClos; repeat' (first | rfl | exact okV_some _ | exact okV_mapB _ _ | exact Act.okV_R (okV_some _) | apply ok_bif | split)
theorem okV_SlS (lo : Bool) (hi : Bool) (vs : List AVal) : (aSlS lo hi vs).okV = true := by
  unfold aSlS; repeat' (first | rfl | exact okV_some _ | exact okV_mapB _ _ | exact Act.okV_R (okV_some _) | apply ok_bif | split)
theorem okV_SlE (s : Nat) (lo : Bool) (hi : Bool) (mx : Bool) (vs : List AVal) : (aSlE s lo hi mx vs).okV = true := by
  unfold aSlE; repeat' (first | rfl | exact okV_some _ | exact okV_mapB _ _ | exact Act.okV_R (okV_some _) | apply ok_bif | split)
theorem okV_SlA (n : Nat) (s : Nat) (lo : Bool) (hi : Bool) (vs : List AVal) : (aSlA n s lo hi vs).okV = true := by
  unfold aSlA; repeat' (first | rfl | exact okV_some _ | exact okV_mapB _ _ | exact Act.okV_R (okV_some _) | apply ok_bif | split)
theorem okV_Fadr (off : Nat) (vs : List AVal) : (aFadr off vs).okV = true := by
  unfold aFadr; repeat' (first | rfl | exact okV_some _ | exact okV_mapB _ _ | exact Act.okV_R (okV_some _) | apply ok_bif | split)
theorem okV_Fld (off : Nat) (n : Nat) (vs : List AVal) : (aFld off n vs).okV = true := by
  unfold aFld; repeat' (first | rfl | exact okV_some _ | exact okV_mapB _ _ | exact Act.okV_R (okV_some _) | apply ok_bif | split)
theorem okV_IadrS (s : Nat) (vs : List AVal) : (aIadrS s vs).okV = true := by
  unfold aIadrS; repeat' (first | rfl | exact okV_some _ | exact okV_mapB _ _ | exact Act.okV_R (okV_some _) | apply ok_bif | split)
theorem okV_IadrA (l : Nat) (s : Nat) (vs : List AVal) : (aIadrA l s vs).okV = true := by
  unfold aIadrA; repeat' (first | rfl | exact okV_some _ | exact okV_mapB _ _ | exact Act.okV_R (okV_some _) | apply ok_bif | split)
theorem okV_IdxS  (vs : List AVal) : (aIdxS  vs).okV = true := by
  unfold aIdxS; repeat' (first | rfl | exact okV_some _ | exact okV_mapB _ _ | exact Act.okV_R (okV_some _) | apply ok_bif | split)
theorem okV_IdxA (l : Nat) (s : Nat) (n : Nat) (vs : List AVal) : (aIdxA l s n vs).okV = true := by
  unfold aIdxA; repeat' (first | rfl | exact okV_some _ | exact okV_mapB _ _ | exact Act.okV_R (okV_some _) | apply ok_bif | split)
theorem okV_Tas (t : TypeId) (z : AVal) (ok : Bool) (vs : List AVal) : (aTas t z ok vs).okV = true := by
  unfold aTas; repeat' (first | rfl | exact okV_some _ | exact okV_mapB _ _ | exact Act.okV_R (okV_some _) | apply ok_bif | split)
theorem okV_Ext (i : Nat) (vs : List AVal) : (aExt i vs).okV = true := by
  unfold aExt; repeat' (first | rfl | exact okV_some _ | exact okV_mapB _ _ | exact Act.okV_R (okV_some _) | apply ok_bif | split)
theorem okV_Len (str : Bool) (vs : List AVal) : (aLen str vs).okV = true := by
  unfold aLen; repeat' (first | rfl | exact okV_some _ | exact okV_mapB _ _ | exact Act.okV_R (okV_some _) | apply ok_bif | split)
theorem okV_LenA (n : Nat) (vs : List AVal) : (aLenA n vs).okV = true := by
  unfold aLenA; repeat' (first | rfl | exact okV_some _ | exact okV_mapB _ _ | exact Act.okV_R (okV_some _) | apply ok_bif | split)
theorem okV_Cap  (vs : List AVal) : (aCap  vs).okV = true := by
  unfold aCap; repeat' (first | rfl | exact okV_some _ | exact okV_mapB _ _ | exact Act.okV_R (okV_some _) | apply ok_bif | split)
theorem okV_Min  (vs : List AVal) : (aMin  vs).okV = true := by
  unfold aMin; repeat' (first | rfl | exact okV_some _ | exact okV_mapB _ _ | exact Act.okV_R (okV_some _) | apply ok_bif | split)
theorem okV_Max  (vs : List AVal) : (aMax  vs).okV = true := by
  unfold aMax; repeat' (first | rfl | exact okV_some _ | exact okV_mapB _ _ | exact Act.okV_R (okV_some _) | apply ok_bif | split)
theorem okV_UnsSlD  (vs : List AVal) : (aUnsSlD  vs).okV = true := by
  unfold aUnsSlD; repeat' (first | rfl | exact okV_some _ | exact okV_mapB _ _ | exact Act.okV_R (okV_some _) | apply ok_bif | split)
theorem okV_IdxByteStr  (vs : List AVal) : (aIdxByteStr  vs).okV = true := by
  unfold aIdxByteStr; repeat' (first | rfl | exact okV_some _ | exact okV_mapB _ _ | exact Act.okV_R (okV_some _) | apply ok_bif | split)
theorem okV_CmpStr  (vs : List AVal) : (aCmpStr  vs).okV = true := by
  unfold aCmpStr; repeat' (first | rfl | exact okV_some _ | exact okV_mapB _ _ | exact Act.okV_R (okV_some _) | apply ok_bif | split)
theorem okR_Load1  (vs : List AVal) : (aLoad1  vs).okR = true := by
  unfold aLoad1; repeat' (first | rfl | exact okV_some _ | exact okV_mapB _ _ | exact Act.okV_R (okV_some _) | apply ok_bif | split)
theorem okR_LoadN (n : Nat) (vs : List AVal) : (aLoadN n vs).okR = true := by
  unfold aLoadN; repeat' (first | rfl | exact okV_some _ | exact okV_mapB _ _ | exact Act.okV_R (okV_some _) | apply ok_bif | split)
theorem okR_Look (e : EqK) (z : AVal) (ok : Bool) (vs : List AVal) : (aLook e z ok vs).okR = true := by
  unfold aLook; repeat' (first | rfl | exact okV_some _ | exact okV_mapB _ _ | exact Act.okV_R (okV_some _) | apply ok_bif | split)
theorem okR_LenM  (vs : List AVal) : (aLenM  vs).okR = true := by
  unfold aLenM; repeat' (first | rfl | exact okV_some _ | exact okV_mapB _ _ | exact Act.okV_R (okV_some _) | apply ok_bif | split)
theorem okN_Alloc (e : TypeId) (z : List AVal) (vs : List AVal) : (aAlloc e z vs).okN = true := by
  unfold aAlloc; repeat' (first | rfl | exact okV_some _ | exact okV_mapB _ _ | exact Act.okV_R (okV_some _) | apply ok_bif | split)
theorem okN_Box (e : TypeId) (vs : List AVal) : (aBox e vs).okN = true := by
  unfold aBox; repeat' (first | rfl | exact okV_some _ | exact okV_mapB _ _ | exact Act.okV_R (okV_some _) | apply ok_bif | split)
theorem okN_BuildSl (e : TypeId) (len : Nat) (z : List AVal) (ps : List (Nat × Nat)) (vs : List AVal) : (aBuildSl e len z ps vs).okN = true := by
  unfold aBuildSl; repeat' (first | rfl | exact okV_some _ | exact okV_mapB _ _ | exact Act.okV_R (okV_some _) | apply ok_bif | split)
theorem okN_MkMap  (vs : List AVal) : (aMkMap  vs).okN = true := by
  unfold aMkMap; repeat' (first | rfl | exact okV_some _ | exact okV_mapB _ _ | exact Act.okV_R (okV_some _) | apply ok_bif | split)
theorem okN_MkSl (e : TypeId) (b : Nat) (z : List AVal) (vs : List AVal) : (aMkSl e b z vs).okN = true := by
  unfold aMkSl; repeat' (first | rfl | exact okV_some _ | exact okV_mapB _ _ | exact Act.okV_R (okV_some _) | apply ok_bif | split)
theorem okN_RngS  (vs : List AVal) : (aRngS  vs).okN = true := by
  unfold aRngS; repeat' (first | rfl | exact okV_some _ | exact okV_mapB _ _ | exact Act.okV_R (okV_some _) | apply ok_bif | split)
theorem okE_Store (n : Nat) (vs : List AVal) : (aStore n vs).okE = true := by
  unfold aStore; repeat' (first | rfl | exact okV_some _ | exact okV_mapB _ _ | exact Act.okV_R (okV_some _) | apply ok_bif | split)
theorem okE_Mset (e : EqK) (vs : List AVal) : (aMset e vs).okE = true := by
  unfold aMset; repeat' (first | rfl | exact okV_some _ | exact okV_mapB _ _ | exact Act.okV_R (okV_some _) | apply ok_bif | split)
theorem okE_Ment (e : EqK) (z : AVal) (vs : List AVal) : (aMent e z vs).okE = true := by
  unfold aMent; repeat' (first | rfl | exact okV_some _ | exact okV_mapB _ _ | exact Act.okV_R (okV_some _) | apply ok_bif | split)
theorem okE_Mst  (vs : List AVal) : (aMst  vs).okE = true := by
  unfold aMst; repeat' (first | rfl | exact okV_some _ | exact okV_mapB _ _ | exact Act.okV_R (okV_some _) | apply ok_bif | split)
theorem okE_NxtS  (vs : List AVal) : (aNxtS  vs).okE = true := by
  unfold aNxtS; repeat' (first | rfl | exact okV_some _ | exact okV_mapB _ _ | exact Act.okV_R (okV_some _) | apply ok_bif | split)
theorem okE_App (e : Nat) (s : Nat) (b : Nat) (vs : List AVal) : (aApp e s b vs).okE = true := by
  unfold aApp; repeat' (first | rfl | exact okV_some _ | exact okV_mapB _ _ | exact Act.okV_R (okV_some _) | apply ok_bif | split)
theorem okE_Copy (s : Nat) (vs : List AVal) : (aCopy s vs).okE = true := by
  unfold aCopy; repeat' (first | rfl | exact okV_some _ | exact okV_mapB _ _ | exact Act.okV_R (okV_some _) | apply ok_bif | split)
theorem okE_Del (e : EqK) (vs : List AVal) : (aDel e vs).okE = true := by
  unfold aDel; repeat' (first | rfl | exact okV_some _ | exact okV_mapB _ _ | exact Act.okV_R (okV_some _) | apply ok_bif | split)
theorem okE_NoZero (e : TypeId) (vs : List AVal) : (aNoZero e vs).okE = true := by
  unfold aNoZero; repeat' (first | rfl | exact okV_some _ | exact okV_mapB _ _ | exact Act.okV_R (okV_some _) | apply ok_bif | split)
theorem okVE_UnsStr (e : TypeId) (vs : List AVal) : (aUnsStr e vs).okVE = true := by
  unfold aUnsStr; repeat' (first | rfl | exact okV_some _ | exact okV_mapB _ _ | exact Act.okV_R (okV_some _) | apply ok_bif | split)
theorem load1_noval (vs : List AVal) (v : AVal) : actK .load1 vs ≠ .val v := by
  show aLoad1 vs ≠ .val v
  unfold aLoad1; split <;> intro h <;> cases h
theorem loadN_noval (n : Nat) (vs : List AVal) (v : AVal) : actK (.loadN n) vs ≠ .val v := by
  show aLoadN n vs ≠ .val v
  unfold aLoadN; split <;> intro h <;> cases h
def Act.okC : Act → Bool | .eff _ => false | _ => true
theorem okC_Conv (c : ConvK) (vs : List AVal) : (actK (.conv c) vs).okC = true := by
  show (aConv c vs).okC = true
  cases c
  · show (cInt _ vs).okC = true; unfold cInt; split <;> rfl
  · show (cSame vs).okC = true; unfold cSame; split <;> rfl
  · show (cPtrUns _ vs).okC = true; unfold cPtrUns; repeat' (first | rfl | apply ok_bif | split)
  · show (cUnsPtr _ _ vs).okC = true; unfold cUnsPtr; repeat' (first | rfl | apply ok_bif | split)
  · show (cBytes _ vs).okC = true; unfold cBytes; split <;> rfl
  · show (cStrOf vs).okC = true; unfold cStrOf; repeat' (first | rfl | apply ok_bif | split)

section
variable {esz : TypeId → Nat} {φ : Phi} {P : Program} {ρ : Operand → Value} {o : Oper} {G : Nat → Prop} {H H' : AHeap} {N : Nat}

noncomputable def stepA (r : Act) (H : AHeap) : Option (AVal × AHeap) :=
  match r with
  | .bad => none
  | .val v => some (v, H)
  | .rd f => (match f H with | some v => some (v, H) | none => none)
  | .new v ob => some (v H.next, H.newObj (ob H.next))
  | .eff f => f H

/-- what is shown of one act -/
inductive ActRes (esz : TypeId → Nat) (G : Nat → Prop) (P : Program) (ρ : Operand → Value) (o : Oper) (φ : Phi) : Act → Prop
  | bad : ActRes esz G P ρ o φ .bad
  | val {v : AVal} (h : PureRes esz φ P ρ o v) : ActRes esz G P ρ o φ (.val v)
  | rd {f : AHeap → Option AVal} (h : ∀ H w v, f H = some v → Sim esz φ G H w.heap → RdRes esz φ P ρ o w v) : ActRes esz G P ρ o φ (.rd f)
  | new {v : Nat → AVal} {ob : Nat → AObj} (h : ∀ w x, NewRes esz φ P ρ o w x v ob) : ActRes esz G P ρ o φ (.new v ob)
  | eff {f : AHeap → Option (AVal × AHeap)} (h : ∀ N H w v H', f H = some (v, H') → Sim esz φ G H w.heap → N ≤ H.next → EffRes esz G P ρ o N φ H w v H') : ActRes esz G P ρ o φ (.eff f)

theorem act_V {a : Act} (h : a.okV = true) (hv : ∀ v, a = .val v → PureRes esz φ P ρ o v) : ActRes esz G P ρ o φ a := by
  cases a <;> first | exact .bad | exact .val (hv _ rfl) | cases h
theorem act_R {a : Act} (h : a.okR = true) (hv : ∀ v, a = .val v → PureRes esz φ P ρ o v)
    (hr : ∀ f, a = .rd f → ∀ H w v, f H = some v → Sim esz φ G H w.heap → RdRes esz φ P ρ o w v) : ActRes esz G P ρ o φ a := by
  cases a <;> first | exact .bad | exact .val (hv _ rfl) | exact .rd (hr _ rfl) | cases h
theorem act_N {a : Act} (h : a.okN = true) (hn : ∀ v ob, a = .new v ob → ∀ w x, NewRes esz φ P ρ o w x v ob) : ActRes esz G P ρ o φ a := by
  cases a <;> first | exact .bad | exact .new (hn _ _ rfl) | cases h
theorem act_VE {a : Act} (h : a.okVE = true) (hv : ∀ v, a = .val v → PureRes esz φ P ρ o v)
    (he : ∀ f, a = .eff f → ∀ N H w v H', f H = some (v, H') → Sim esz φ G H w.heap → N ≤ H.next → EffRes esz G P ρ o N φ H w v H') : ActRes esz G P ρ o φ a := by
  cases a <;> first | exact .bad | exact .val (hv _ rfl) | exact .eff (he _ rfl) | cases h
theorem act_E {a : Act} (h : a.okE = true)
    (he : ∀ f, a = .eff f → ∀ N H w v H', f H = some (v, H') → Sim esz φ G H w.heap → N ≤ H.next → EffRes esz G P ρ o N φ H w v H') : ActRes esz G P ρ o φ a := by
  cases a <;> first | exact .bad | exact .eff (he _ rfl) | cases h

theorem act_run (hρ : Names ρ) (hesz : ∀ t, esz t = P.cellsOf t) {k : K} {vs : List AVal} (hok : okK P o.op k = true) (hr : VRels esz φ vs ((argsOf o.op).map ρ)) :
    ActRes esz G P ρ o φ (actK k vs) := by
  cases k with
  | mov  => exact act_V (okV_Mov  vs) fun v ha => pure_mov hok hr ha
  | pick  => exact act_V (okV_Pick  vs) fun v ha => pure_pick hok hr ha
  | build z ps => exact act_V (okV_Build z ps vs) fun v ha => pure_build hok hr ha
  | nilChk  => exact act_V (okV_NilChk  vs) fun v ha => pure_nilChk hok hr ha
  | bin op e => exact act_V (okV_Bin op e vs) fun v ha => pure_bin hok hr ha
  | un op => exact act_V (okV_Un op vs) fun v ha => pure_un hok hr ha
  | ifc t => exact act_V (okV_Ifc t vs) fun v ha => pure_ifc hok hr ha
  | clos f n => exact act_V (okV_Clos f n vs) fun v ha => pure_clos hok hr ha
  | slS lo hi => exact act_V (okV_SlS lo hi vs) fun v ha => pure_slS hok hr ha
  | slE s lo hi mx => exact act_V (okV_SlE s lo hi mx vs) fun v ha => pure_slE hok hr ha
  | slA n s lo hi => exact act_V (okV_SlA n s lo hi vs) fun v ha => pure_slA hok hr ha
  | fadr off => exact act_V (okV_Fadr off vs) fun v ha => pure_fadr hok hr ha
  | fld off n => exact act_V (okV_Fld off n vs) fun v ha => pure_fld hok hr ha
  | iadrS s => exact act_V (okV_IadrS s vs) fun v ha => pure_iadrS hok hr ha
  | iadrA l s => exact act_V (okV_IadrA l s vs) fun v ha => pure_iadrA hok hr ha
  | idxS  => exact act_V (okV_IdxS  vs) fun v ha => pure_idxS hok hr ha
  | idxA l s n => exact act_V (okV_IdxA l s n vs) fun v ha => pure_idxA hok hr ha
  | tas t z ok => exact act_V (okV_Tas t z ok vs) fun v ha => pure_tas hok hr ha
  | ext i => exact act_V (okV_Ext i vs) fun v ha => pure_ext hok hr ha
  | len str => exact act_V (okV_Len str vs) fun v ha => pure_len hok hr ha
  | lenA n => exact act_V (okV_LenA n vs) fun v ha => pure_lenA hok hr ha
  | cap  => exact act_V (okV_Cap  vs) fun v ha => pure_cap hok hr ha
  | min  => exact act_V (okV_Min  vs) fun v ha => pure_min hok hr ha
  | max  => exact act_V (okV_Max  vs) fun v ha => pure_max hok hr ha
  | unsSlD  => exact act_V (okV_UnsSlD  vs) fun v ha => pure_unsSlD hok hr ha
  | idxByteStr  => exact act_V (okV_IdxByteStr  vs) fun v ha => pure_idxByteStr hρ hok hr ha
  | cmpStr  => exact act_V (okV_CmpStr  vs) fun v ha => pure_cmpStr hρ hok hr ha
  | noEsc => exact act_V (okV_Mov vs) fun v ha => pure_noEsc hρ hok hr ha
  | load1 => exact act_R (okR_Load1 vs) (fun v ha => absurd ha (load1_noval vs v)) fun f ha H w v hf S => rd_load1 hok hr ha hf S
  | loadN n => exact act_R (okR_LoadN n vs) (fun v ha => absurd ha (loadN_noval n vs v)) fun f ha H w v hf S => rd_loadN hok hr ha hf S
  | look e z ok => exact act_R (okR_Look e z ok vs) (fun v ha => pure_look hok hr ha) fun f ha H w v hf S => rd_look hok hr ha hf S
  | lenM => exact act_R (okR_LenM vs) (fun v ha => pure_lenM hok hr ha) fun f ha H w v hf S => rd_lenM hok hr ha hf S
  | conv c =>
    have hn : ∀ w x v ob, actK (.conv c) vs = .new v ob → NewRes esz φ P ρ o w x v ob := fun w x v ob ha => new_bytes hesz hok hr ha w x
    have hv : ∀ v, actK (.conv c) vs = .val v → PureRes esz φ P ρ o v := fun v ha => pure_conv hok hr ha
    have hrd : ∀ f H w v, actK (.conv c) vs = .rd f → f H = some v → Sim esz φ G H w.heap → RdRes esz φ P ρ o w v := fun f H w v ha hf S => rd_conv hesz hok hr ha hf S
    have he := okC_Conv c vs
    generalize actK (.conv c) vs = a at hn hv hrd he
    cases a <;> first | exact .bad | exact .val (hv _ rfl) | exact .rd (fun H w v => hrd _ H w v rfl) | exact .new (fun w x => hn w x _ _ rfl) | cases he
  | alloc e z => exact act_N (okN_Alloc e z vs) fun v ob ha w x => new_alloc hok hr ha w x
  | box e => exact act_N (okN_Box e vs) fun v ob ha w x => new_box hok hr ha w x
  | buildSl e len z ps => exact act_N (okN_BuildSl e len z ps vs) fun v ob ha w x => new_buildSl hok hr ha w x
  | mkMap  => exact act_N (okN_MkMap  vs) fun v ob ha w x => new_mkMap hok ha w x
  | mkSl e b z => exact act_N (okN_MkSl e b z vs) fun v ob ha w x => new_mkSl hok hr ha w x
  | rngS  => exact act_N (okN_RngS  vs) fun v ob ha w x => new_rngS hok hr ha w x
  | store n => exact act_E (okE_Store n vs) fun f ha N H w v H' hf S hN => eff_store hok hr ha hf S
  | mset e => exact act_E (okE_Mset e vs) fun f ha N H w v H' hf S hN => eff_mset hok hr ha hf S
  | ment e z => exact act_E (okE_Ment e z vs) fun f ha N H w v H' hf S hN => eff_ment hok hr ha hf S
  | mst  => exact act_E (okE_Mst  vs) fun f ha N H w v H' hf S hN => eff_mst hok hr ha hf S
  | nxtS  => exact act_E (okE_NxtS  vs) fun f ha N H w v H' hf S hN => eff_nxtS hok hr ha hf S
  | app e s b => exact act_E (okE_App e s b vs) fun f ha N H w v H' hf S hN => eff_app hesz hok hr ha hf S hN
  | copy s => exact act_E (okE_Copy s vs) fun f ha N H w v H' hf S hN => eff_copy hok hr ha hf S
  | del e => exact act_E (okE_Del e vs) fun f ha N H w v H' hf S hN => eff_del hok hr ha hf S
  | noZero e => exact act_E (okE_NoZero e vs) fun f ha N H w v H' hf S hN => eff_noZero hρ hesz hok hr ha hf S hN
  | unsStr e => exact act_VE (okVE_UnsStr e vs) (fun v ha => pure_unsStr hok hr ha) fun f ha N H w v H' hf S hN => eff_unsStr hok hr ha hf S
end
end Go.Am
