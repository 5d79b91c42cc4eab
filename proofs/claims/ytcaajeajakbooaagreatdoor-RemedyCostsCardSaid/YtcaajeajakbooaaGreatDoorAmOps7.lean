/-
  Single operations of the abstract machine are those of the model, part 7.
-/
import Derived.Test.YtcaajeajakbooaaGreatDoorAmOps6
import Derived.KernelRfl
set_option linter.unusedVariables false
set_option linter.unusedSimpArgs false
namespace Go.Am
open Go

section
variable {esz : TypeId → Nat} {φ : Phi} {P : Program} {w : World} {ρ : Operand → Value} {o : Oper}

/-- the frame's reading of the operands that name a function -/
def Names (ρ : Operand → Value) : Prop := ∀ f g, direct f = some g → ρ f = .func (.func g) #[] #[]

theorem look_same : Extern.allGenericRows.lookup "internal/abi.NoEscape" = none ∧ Extern.allTypedRows.lookup "internal/abi.NoEscape" = none ∧
    Extern.allRows.lookup "internal/abi.NoEscape" = some Extern.AbiNoEscape.same := ⟨by kernel_rfl, by kernel_rfl, by kernel_rfl⟩
theorem look_idx : Extern.allGenericRows.lookup "internal/bytealg.IndexByteString" = none ∧ Extern.allTypedRows.lookup "internal/bytealg.IndexByteString" = none ∧
    Extern.allRows.lookup "internal/bytealg.IndexByteString" = some Extern.BytealgIndexByte.indexByte := ⟨by kernel_rfl, by kernel_rfl, by kernel_rfl⟩
theorem look_cmp : Extern.allGenericRows.lookup "internal/bytealg.abigen_runtime_cmpstring" = none ∧ Extern.allTypedRows.lookup "internal/bytealg.abigen_runtime_cmpstring" = none ∧
    Extern.allRows.lookup "internal/bytealg.abigen_runtime_cmpstring" = some Extern.BytealgCompare.compare := ⟨by kernel_rfl, by kernel_rfl, by kernel_rfl⟩
theorem look_mnz : Extern.allGenericRows.lookup "internal/bytealg.MakeNoZero" = none ∧
    Extern.allTypedRows.lookup "internal/bytealg.MakeNoZero" = some Extern.BytealgMakeNoZero.makeNoZero := ⟨by kernel_rfl, by kernel_rfl⟩

theorem find_plain {fn : Func} {name : String} {f : Array Value → Sem Value} (hn : fn.name = name)
    (h : Extern.allGenericRows.lookup name = none ∧ Extern.allTypedRows.lookup name = none ∧ Extern.allRows.lookup name = some f) : Extern.find fn = some f := by
  simp [Extern.find, hn, h.1, h.2.1, h.2.2]

theorem extern_call {c : Call} {f : Operand} {name : String} {e : Array Value → Sem Value} (hρ : Names ρ) (hop : o.op = .call c) (hc : c.callee = .value f) (hx : externIs P f name = true)
    (hnn : name ≠ "runtime.NumGoroutine") (he : ∀ fn : Func, fn.name = name → Extern.find fn = some e) (w : World) :
    argsOf (.call c) = c.args.toList ∧ (execOp ρ o).run P w = ((e (c.args.map ρ)).run P w).andThen fun v w' => .ok (.value v) w' := by
  unfold externIs at hx
  cases hd : direct f with
  | none => simp [hd] at hx
  | some g =>
    simp only [hd] at hx
    cases hg : P.funcs[g]? with
    | none => simp [hg] at hx
    | some fn =>
      simp only [hg, Bool.and_eq_true, beq_iff_eq] at hx
      obtain ⟨⟨h1, h2⟩, h3⟩ := hx
      have hf := hρ f g hd
      constructor
      · unfold direct at hd
        split at hd <;> cases hd <;> simp [argsOf, hc]
      · simp only [execOp, hop, resolve, hc, hf, Deferred.ofValue]
        have h4 : Extern.findNext fn = none := by cases hq : Extern.findNext fn <;> simp_all
        have h5 : (fn.name == "runtime.NumGoroutine") = false := by rw [h1]; simp [hnn]
        have hm : ∀ (m : Mark) (w : World), (Sem.mark m (Sem.pure ())).run P w = .ok () w := fun _ _ => rfl
        have h6 : fn.body = none := by simpa using h2
        have h7 : fn.name ≠ "runtime.NumGoroutine" := by rw [h1]; exact hnn
        simp [invoke, callFunc, hg, h7, h6, mark, h4, he fn h1, hm, Result.andThen]

theorem find_congr {α : Type} {p q : α → Bool} : ∀ (l : List α), (∀ x ∈ l, p x = q x) → l.find? p = l.find? q
  | [], _ => rfl
  | x :: l, h => by
    rw [List.find?_cons, List.find?_cons, h x (List.mem_cons_self ..), find_congr l fun y hy => h y (List.mem_cons_of_mem _ hy)]

theorem findByte_eq (c : Nat) : ∀ (l : List Nat) (i : Nat), findByte c l i = match (List.range' i l.length).find? (fun j => l[j - i]! == c) with | some j => (j : Int) | none => -1 := by
  intro l
  induction l with
  | nil => intro i; simp [findByte]
  | cons b l ih =>
    intro i
    unfold findByte
    rw [List.length_cons, List.range'_succ, List.find?_cons]
    by_cases hb : Nat.beq b c = true
    · rw [bif_true hb]; rw [beqN] at hb; simp [hb]
    · rw [bif_false (bool_false hb), ih]
      rw [beqN] at hb
      have e1 : ((b :: l)[i - i]! == c) = false := by simp [hb]
      rw [e1]
      have : (List.range' (i + 1) l.length).find? (fun j => l[j - (i + 1)]! == c) = (List.range' (i + 1) l.length).find? (fun j => (b :: l)[j - i]! == c) := by
        apply find_congr
        intro j hj
        have : i + 1 ≤ j := by simp at hj; omega
        have e : j - i = (j - (i + 1)) + 1 := by omega
        rw [e]
        simp
      rw [← this]

theorem byte_ofBytes (s : ByteArray) (i : Nat) (h : i < s.size) : (ofBytes s)[i]! = (s[i]!).toNat := by
  have h2 : i < s.data.toList.length := by simpa using h
  have e1 : (ofBytes s)[i]! = (s.data.toList[i]).toNat := by
    unfold ofBytes
    rw [List.getElem!_eq_getElem?_getD]
    have : i < s.data.size := by simpa using h
    simp [Array.getElem?_eq_getElem this]
  rw [e1]
  have e2 : s[i]! = s.data.toList[i] := by
    rw [getElem!_pos s i h]
    simp [ByteArray.getElem_eq_getElem_data]
  rw [e2]

theorem indexByte_run {s : ByteArray} {c : Nat} (w : World) (hc : c < 256) :
    (Extern.BytealgIndexByte.indexByte #[.string s, .int .u8 (Int.ofNat c)]).run P w = .ok (.int .i64 (findByte c (ofBytes s) 0)) w := by
  have e : Extern.BytealgIndexByte.indexByte #[.string s, .int .u8 (Int.ofNat c)] = bind (Extern.Bytes.bytesOf (.string s)) (fun b => bind (Extern.Bytes.asByte (.int .u8 (Int.ofNat c))) _) := rfl
  rw [e]
  simp only [Sem.run_bind, Extern.Bytes.bytesOf, Extern.Bytes.asByte, Sem.run_pure, Result.andThen]
  rw [findByte_eq]
  have e2 : (List.range' 0 (ofBytes s).length).find? (fun j => (ofBytes s)[j - 0]! == c) = (List.range s.size).find? fun i => s[i]! == (Int.ofNat c).toNat.toUInt8 := by
    rw [ofBytes_length, List.range_eq_range']
    apply find_congr
    intro j hj
    have hj : j < s.size := by simp at hj; omega
    rw [Nat.sub_zero, byte_ofBytes s j hj]
    rw [Bool.eq_iff_iff]
    simp only [beq_iff_eq]
    constructor
    · intro h
      have : s[j]! = (s[j]!).toNat.toUInt8 := by simp
      rw [this, h]
      rfl
    · intro h
      rw [h]
      show (Nat.toUInt8 c).toNat = c
      simp [Nat.toUInt8, Nat.mod_eq_of_lt hc]
  rw [e2]
  cases (List.range s.size).find? (fun i => s[i]! == (Int.ofNat c).toNat.toUInt8) <;> simp [goInt]

theorem pure_noEsc {vs : List AVal} {v : AVal} (hρ : Names ρ) (hok : okK P o.op .noEsc = true) (hr : VRels esz φ vs ((argsOf o.op).map ρ)) (ha : actK .noEsc vs = .val v) : PureRes esz φ P ρ o v := by
  have ha' : aMov vs = .val v := ha
  cases hop : o.op <;> rw [hop] at hok hr <;> first | (simp [okK] at hok; done) | skip
  rename_i c
  cases hc : c.callee <;> simp only [okK, hc] at hok <;> first | (cases hok; done) | skip
  rename_i f
  intro w
  obtain ⟨e1, e2⟩ := extern_call hρ hop hc hok (by simp) (fun fn hn => find_plain hn look_same) w
  rw [e1] at hr
  unfold aMov at ha'
  split at ha' <;> cases ha'
  obtain ⟨u, e, h⟩ := hr.inv1
  refine ⟨u, ?_, h⟩
  rw [e2, args_eq e]
  rfl

theorem pure_idxByteStr {vs : List AVal} {v : AVal} (hρ : Names ρ) (hok : okK P o.op .idxByteStr = true) (hr : VRels esz φ vs ((argsOf o.op).map ρ)) (ha : actK .idxByteStr vs = .val v) : PureRes esz φ P ρ o v := by
  have ha' : aIdxByteStr vs = .val v := ha
  cases hop : o.op <;> rw [hop] at hok hr <;> first | (simp [okK] at hok; done) | skip
  rename_i c
  cases hc : c.callee <;> simp only [okK, hc] at hok <;> first | (cases hok; done) | skip
  rename_i f
  intro w
  obtain ⟨e1, e2⟩ := extern_call hρ hop hc hok (by simp) (fun fn hn => find_plain hn look_idx) w
  rw [e1] at hr
  unfold aIdxByteStr at ha'
  split at ha' <;> first | (cases ha'; done) | skip
  rename_i s c
  by_cases hb : Nat.blt c 256 = true
  · rw [bif_true hb] at ha'; cases ha'
    obtain ⟨u1, u2, e, h1, h2⟩ := hr.inv2
    cases h1
    cases h2
    refine ⟨.int .i64 _, ?_, .int _ _⟩
    rw [e2, args_eq e, indexByte_run w (bltN.1 hb)]
    rfl
  · rw [bif_false (bool_false hb)] at ha'; cases ha'

def cmpN (x y : List Nat) : Int :=
  match (List.range (min x.length y.length)).find? fun i => x[i]! != y[i]! with
  | some i => if x[i]! < y[i]! then -1 else 1
  | none => if x.length < y.length then -1 else if x.length > y.length then 1 else 0

theorem cmpN_cons (a b : Nat) (x y : List Nat) : cmpN (a :: x) (b :: y) = if a < b then -1 else if b < a then 1 else cmpN x y := by
  unfold cmpN
  have e : min (a :: x).length (b :: y).length = min x.length y.length + 1 := by simp [Nat.succ_min_succ]
  rw [e, List.range_succ_eq_map, List.find?_cons]
  by_cases h : a = b
  · subst h
    have : ((a :: x)[0]! != (a :: y)[0]!) = false := by simp
    rw [this]
    simp only [List.find?_map, Nat.lt_irrefl, if_false]
    have e2 : ((fun i => (a :: x)[i]! != (a :: y)[i]!) ∘ Nat.succ) = fun i => x[i]! != y[i]! := by
      funext i; simp
    rw [e2]
    cases hq : (List.range (min x.length y.length)).find? (fun i => x[i]! != y[i]!) with
    | none => simp
    | some i => simp
  · have : ((a :: x)[0]! != (b :: y)[0]!) = true := by simp [h]
    rw [this]
    simp only [List.getElem!_cons_zero]
    by_cases h1 : a < b
    · simp [h1]
    · have : b < a := by omega
      simp [h1, this]

theorem cmpN_eq : ∀ (x y : List Nat), cmpN x y = if bytesLessN x y then -1 else if bytesLessN y x then 1 else 0
  | [], [] => by simp [cmpN, bytesLessN]
  | [], b :: y => by simp [cmpN, bytesLessN]
  | a :: x, [] => by simp [cmpN, bytesLessN]
  | a :: x, b :: y => by
    rw [cmpN_cons, cmpN_eq x y]
    have q : ∀ (a b : Nat) (x y : List Nat), bytesLessN (a :: x) (b :: y) = (Nat.blt a b || (Nat.beq a b && bytesLessN x y)) := fun _ _ _ _ => rfl
    have q1 : ∀ a b, Nat.blt a b = decide (a < b) := fun a b => by rw [Bool.eq_iff_iff, bltN]; simp
    have q2 : ∀ a b, Nat.beq a b = decide (a = b) := fun a b => by rw [Bool.eq_iff_iff, beqN]; simp
    rw [q, q, q1, q1, q2, q2]
    by_cases h : a < b
    · have : ¬ b < a := by omega
      simp [h]
    · by_cases h2 : b < a
      · have h3 : ¬ a = b := by omega
        have h4 : ¬ b = a := by omega
        simp [h, h2, h3, h4]
      · have : a = b := by omega
        subst this
        simp

theorem cmp_eq (a b : ByteArray) : Extern.BytealgCompare.cmp a b = if bytesLessN (ofBytes a) (ofBytes b) then -1 else if bytesLessN (ofBytes b) (ofBytes a) then 1 else 0 := by
  rw [← cmpN_eq]
  unfold Extern.BytealgCompare.cmp cmpN
  rw [ofBytes_length, ofBytes_length]
  have e : (List.range (min a.size b.size)).find? (fun i => (ofBytes a)[i]! != (ofBytes b)[i]!) = (List.range (min a.size b.size)).find? (fun i => a[i]! != b[i]!) := by
    apply find_congr
    intro i hi
    simp only [List.mem_range] at hi
    rw [byte_ofBytes a i (by omega), byte_ofBytes b i (by omega)]
    rw [Bool.eq_iff_iff]
    simp only [bne_iff_ne, ne_eq, UInt8.toNat_inj]
  rw [e]
  cases hq : (List.range (min a.size b.size)).find? (fun i => a[i]! != b[i]!) with
  | none => rfl
  | some i =>
    have := List.mem_of_find?_eq_some hq
    simp only [List.mem_range] at this
    simp only [byte_ofBytes a i (by omega), byte_ofBytes b i (by omega), UInt8.lt_iff_toNat_lt]

theorem pure_cmpStr {vs : List AVal} {v : AVal} (hρ : Names ρ) (hok : okK P o.op .cmpStr = true) (hr : VRels esz φ vs ((argsOf o.op).map ρ)) (ha : actK .cmpStr vs = .val v) : PureRes esz φ P ρ o v := by
  have ha' : aCmpStr vs = .val v := ha
  cases hop : o.op <;> rw [hop] at hok hr <;> first | (simp [okK] at hok; done) | skip
  rename_i c
  cases hc : c.callee <;> simp only [okK, hc] at hok <;> first | (cases hok; done) | skip
  rename_i f
  intro w
  obtain ⟨e1, e2⟩ := extern_call hρ hop hc hok (by simp) (fun fn hn => find_plain hn look_cmp) w
  rw [e1] at hr
  unfold aCmpStr at ha'
  split at ha' <;> first | (cases ha'; done) | skip
  cases ha'
  obtain ⟨u1, u2, e, h1, h2⟩ := hr.inv2
  cases h1
  cases h2
  rename_i a b
  refine ⟨.int .i64 _, ?_, .int _ _⟩
  rw [e2, args_eq e]
  have e3 : Extern.BytealgCompare.compare #[.string a, .string b] = pure (goInt (Extern.BytealgCompare.cmp a b)) := rfl
  rw [e3, cmp_eq]
  cases bytesLessN (ofBytes a) (ofBytes b) <;> cases bytesLessN (ofBytes b) (ofBytes a) <;> rfl
end
end Go.Am
