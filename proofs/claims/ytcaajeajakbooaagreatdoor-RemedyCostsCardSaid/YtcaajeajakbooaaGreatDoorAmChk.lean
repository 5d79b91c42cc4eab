/-
  A checker: an instruction of the abstract machine is one of the program (definitions alone).
-/
import Derived.Test.YtcaajeajakbooaaGreatDoorAmDef
import Derived.Laws.Sem
import GoSem.Extern.Table
set_option linter.unusedVariables false
set_option linter.unusedSimpArgs false
namespace Go.Am
open Go

def bytesN : List UInt8 → List Nat → Bool
  | [], [] => true
  | a :: x, b :: y => Nat.beq a.toNat b && bytesN x y
  | _, _ => false
def crL (f : AVal → Value → Bool) : List AVal → List Value → Bool
  | [], [] => true
  | a :: x, b :: y => f a b && crL f x y
  | _, _ => false
/-- a constant: no address in it -/
def cr : Nat → AVal → Value → Bool
  | 0, _, _ => false
  | n + 1, v, u => match v, u with
    | .any, u => u.oneCell'
    | .bool a, .bool b => eqBool a b
    | .int k a, .int j b => eqKind k j && eqInt a b
    | .str l, .string ⟨⟨s⟩⟩ => bytesN s l
    | .nilptr, .pointer none => true
    | .nilsl, .slice none 0 0 => true
    | .nilmap, .map none => true
    | .fn f [] [], .func (.func g) ⟨[]⟩ ⟨[]⟩ => Nat.beq f g
    | .nilfn, .nilFunc => true
    | .niliface, .nilIface => true
    | .agg a, .agg ⟨b⟩ => crL (cr n) a b
    | .tup a, .tuple ⟨b⟩ => crL (cr n) a b
    | _, _ => false

section
variable (P : Program)
def sizeIs (t : TypeId) (n : Nat) : Bool := match P.info? t with | some i => Nat.beq i.size n | none => false
def bytesIs (t : TypeId) (n : Nat) : Bool := match P.info? t with | some i => Nat.beq i.bytes n | none => false
def zeroIs (t : TypeId) (z : List AVal) : Bool :=
  match P.info? t with | some i => (match i.zero with | some v => crL (cr 20) z v.cells.toList | none => false) | none => false
def zeroVIs (t : TypeId) (z : AVal) : Bool :=
  match P.info? t with | some i => (match i.zero with | some v => cr 20 z v | none => false) | none => false
/-- a part of n cells (0: a single cell that is no aggregate) -/
def partIs (t : TypeId) (n : Nat) : Bool :=
  match P.underlying t with
  | some (.struct _) => sizeIs P t n && !(Nat.beq n 0)
  | some (.array ..) => sizeIs P t n && !(Nat.beq n 0)
  | some _ => Nat.beq n 0
  | none => false
def placesS (fs : Array Field) : List (Nat × Operand) → List (Nat × Nat) → Bool
  | [], [] => true
  | (i, _) :: r, (off, n) :: ps => (match fs[i]? with | some f => Nat.beq f.offset off && sizeIs P f.type n | none => false) && placesS fs r ps
  | _, _ => false
def placesA (size : Nat) : List (Nat × Operand) → List (Nat × Nat) → Bool
  | [], [] => true
  | (i, _) :: r, (off, n) :: ps => Nat.beq (Nat.mul i size) off && Nat.beq size n && placesA size r ps
  | _, _ => false
def allSizes : List Field → Bool
  | [] => true
  | f :: fs => (match P.info? f.type with | some _ => true | none => false) && allSizes fs
def fieldsIs (eq : EqK → TypeId → Bool) : List Field → EqK → Bool
  | [], .fnil => true
  | f :: fs, l =>
    bif f.name == "_" then fieldsIs eq fs l
    else match l with
      | .fcons off n e rest => Nat.beq f.offset off && partIs P f.type n && eq e f.type && fieldsIs eq fs rest
      | _ => false
  | _, _ => false
def elemsIs (eq : EqK → TypeId → Bool) (el : TypeId) (size : Nat) : Nat → Nat → EqK → Bool
  | 0, _, .fnil => true
  | m + 1, i, .fcons off n e rest => Nat.beq (Nat.mul i size) off && partIs P el n && eq e el && elemsIs eq el size m (Nat.succ i) rest
  | _, _, _ => false
def eqkIs : Nat → EqK → TypeId → Bool
  | 0, _, _ => false
  | d + 1, e, t =>
    match P.underlying t, e with
    | some .bool, .b => true
    | some (.int _), .i => true
    | some .string, .s => true
    | some (.pointer el), .p => (match P.info? el with | some i => !(Nat.beq i.size 0) | none => false)
    | some (.interface _), .ifc => true
    | some (.slice _), .sl => true
    | some (.map ..), .m => true
    | some (.func ..), .f => true
    | some (.struct fs), .st l => !P.stoodInHeld t && fieldsIs P (eqkIs d) fs.toList l
    | some (.array n el), .st l => (match P.info? el with | some i => elemsIs P (eqkIs d) el i.size n 0 l | none => false)
    | _, _ => false
end

/-- no array type: a key of a map -/
def noArr (_ : Program) (_ : TypeId) : Bool := true

/-- the operands of an operation, in the instruction's order -/
def argsOf (o : Op) : List Operand :=
  match o with
  | .move x => [x] | .assign x => [x]
  | .pick c a b => [c, a, b]
  | .alloc _ => []
  | .box _ x => [x]
  | .build _ ps => ps.toList.map (·.2)
  | .buildSlice _ _ ps => ps.toList.map (·.2)
  | .insert _ m k v => [m, k, v]
  | .mapUpdate _ m k v => [m, k, v]
  | .load _ a => [a]
  | .store _ a v => [a, v]
  | .nilCheck x => [x]
  | .binOp _ _ x y _ => [x, y]
  | .unOp _ _ x => [x]
  | .convert _ _ x => [x]
  | .makeInterface _ x => [x]
  | .makeFunc _ a b => a.toList ++ b.toList
  | .makeSlice _ l c => [l, c]
  | .slice _ x l h m => x :: (l.toList ++ (h.toList ++ m.toList))
  | .fieldAddr _ x _ => [x]
  | .field _ x _ => [x]
  | .indexAddr _ x i => [x, i]
  | .index _ x i => [x, i]
  | .lookup _ x i _ => [x, i]
  | .mapEntry _ m k => [m, k]
  | .entryStore _ m s x => [m, s, x]
  | .range _ x => [x]
  | .next it _ => [it]
  | .typeAssert x _ _ _ => [x]
  | .extract x _ => [x]
  | .call c => (match c.callee with
    | .value (.func _) => c.args.toList
    | .value (.const (.func (.func _) ⟨[]⟩ ⟨[]⟩)) => c.args.toList
    | .value f => f :: c.args.toList
    | _ => c.args.toList)
  | .defer c => (match c.callee with | .value f => f :: c.args.toList | _ => [])
  | .panic x => [x]
  | _ => []

def optB (o : Option Operand) : Bool := match o with | some _ => true | none => false
def eqBin (a b : BinOp) : Bool := decide (a = b)
def eqUn (a b : UnOp) : Bool := decide (a = b)
def isEqOp (o : BinOp) : Bool := match o with | .eql => true | .neq => true | _ => false
/-- the function that a call names, if its operand names one -/
def direct (f : Operand) : Option FuncId :=
  match f with
  | .func g => some g
  | .const (.func (.func g) ⟨[]⟩ ⟨[]⟩) => some g
  | _ => none
def externIs (P : Program) (f : Operand) (name : String) : Bool :=
  match direct f with
  | some g => (match P.funcs[g]? with
    | some fn => fn.name == name && fn.body.isNone && (Extern.findNext fn).isNone
    | none => false)
  | none => false

/-- what '==' asks besides: no guard of the compiler's stands in the way -/
def guardIs (P : Program) (e : EqK) (t : TypeId) (x y : Operand) : Bool :=
  match e with
  | .st _ => !P.eqGuardType P.depth t
  | .ifc => (match x with | .const _ => true | _ => false) || (match y with | .const _ => true | _ => false)
  | _ => true

section
variable (P : Program)
def okK (o : Op) (k : K) : Bool :=
  match k with
  | .mov => (match o with
    | .move _ => true | .assign _ => true | _ => false)
  | .pick => (match o with | .pick .. => true | _ => false)
  | .alloc e z => (match o with | .alloc e' => Nat.beq e e' && zeroIs P e z | _ => false)
  | .box e => (match o with | .box e' _ => Nat.beq e e' | _ => false)
  | .build z ps => (match o with
    | .build t l => zeroIs P t z && (match P.underlying t with
      | some (.struct fs) => allSizes P fs.toList && placesS P fs l.toList ps
      | some (.array _ el) => (match P.info? el with | some i => placesA i.size l.toList ps | none => false)
      | _ => false)
    | _ => false)
  | .buildSl e len z ps => (match o with
    | .buildSlice t n l => Nat.beq n len && zeroIs P e z && (match P.underlying t, P.info? e with
      | some (.slice e'), some i => Nat.beq e e' && Nat.beq i.size z.length && !(Nat.beq i.size 0) && Nat.ble (Nat.mul len i.size) 16777216 && placesA i.size l.toList ps
      | _, _ => false)
    | _ => false)
  | .load1 => (match o with | .load t _ => partIs P t 0 | _ => false)
  | .loadN n => (match o with | .load t _ => !(Nat.beq n 0) && partIs P t n | _ => false)
  | .store n => (match o with | .store t _ _ => sizeIs P t n | _ => false)
  | .nilChk => (match o with | .nilCheck _ => true | _ => false)
  | .bin op e => (match o with
    | .binOp op' t x y _ => eqBin op op' && (bif isEqOp op then eqkIs P 8 e t && guardIs P e t x y else true)
    | _ => false)
  | .un op => (match o with | .unOp op' _ _ => eqUn op op' | _ => false)
  | .conv c => (match o with
    | .convert s d _ => (match c, P.underlying s, P.underlying d with
      | .int k, some (.int _), some (.int j) => eqKind k j
      | .same, some .string, some .string => true
      | .ptrUns n, some (.pointer t), some .unsafePointer => sizeIs P t n
      | .unsPtr u n, some .unsafePointer, some (.pointer t) => Nat.beq u t && sizeIs P t n
      | .bytes e, some .string, some (.slice e') => Nat.beq e e' && sizeIs P e 1 && (match P.underlying e with | some (.int .u8) => true | _ => false)
      | .strOfBytes, some (.slice e), some .string => (match P.underlying e with | some (.int .u8) => true | _ => false)
      | _, _, _ => false)
    | _ => false)
  | .ifc t => (match o with | .makeInterface t' _ => Nat.beq t t' && (match P.underlying t with | some (.interface _) => false | some _ => true | none => false) | _ => false)
  | .clos f n => (match o with | .makeFunc (.func g) a _ => Nat.beq f g && Nat.beq a.size n | _ => false)
  | .mkMap => (match o with | .makeMap _ none => true | _ => false)
  | .mkSl e b z => (match o with
    | .makeSlice t _ _ => (match P.underlying t with | some (.slice e') => Nat.beq e e' && bytesIs P e b && zeroIs P e z && sizeIs P e z.length && !(Nat.beq z.length 0) | _ => false)
    | _ => false)
  | .slS lo hi => (match o with
    | .slice t _ l h m => (match P.underlying t with | some .string => eqBool lo (optB l) && eqBool hi (optB h) && !optB m | _ => false)
    | _ => false)
  | .slE s lo hi mx => (match o with
    | .slice t _ l h m => (match P.underlying t with | some (.slice e) => sizeIs P e s && eqBool lo (optB l) && eqBool hi (optB h) && eqBool mx (optB m) | _ => false)
    | _ => false)
  | .slA n s lo hi => (match o with
    | .slice t _ l h m => (match P.underlying t with | some (.array n' e) => Nat.beq n n' && sizeIs P e s && eqBool lo (optB l) && eqBool hi (optB h) && !optB m | _ => false)
    | _ => false)
  | .fadr off => (match o with
    | .fieldAddr s _ f => (match P.underlying s with
      | some (.struct fs) => (match fs[f]? with | some fl => Nat.beq off fl.offset && (match P.info? fl.type with | some i => !(Nat.beq i.size 0) | none => false) | none => false)
      | _ => false)
    | _ => false)
  | .fld off n => (match o with
    | .field s _ f => (match P.underlying s with
      | some (.struct fs) => (match fs[f]? with | some fl => Nat.beq off fl.offset && partIs P fl.type n | none => false)
      | _ => false)
    | _ => false)
  | .iadrS s => (match o with | .indexAddr t _ _ => (match P.underlying t with | some (.slice e) => sizeIs P e s | _ => false) | _ => false)
  | .iadrA l s => (match o with | .indexAddr t _ _ => (match P.underlying t with | some (.array l' e) => Nat.beq l l' && sizeIs P e s | _ => false) | _ => false)
  | .idxS => (match o with | .index t _ _ => (match P.underlying t with | some .string => true | _ => false) | _ => false)
  | .idxA l s n => (match o with | .index t _ _ => (match P.underlying t with | some (.array l' e) => Nat.beq l l' && sizeIs P e s && partIs P e n | _ => false) | _ => false)
  | .look e z ok => (match o with
    | .lookup t _ _ ok' => eqBool ok ok' && (match P.underlying t with | some (.map kt el) => eqkIs P 8 e kt && noArr P kt && zeroVIs P el z | _ => false)
    | _ => false)
  | .mset e => (match o with
    | .mapUpdate t _ _ _ => (match P.underlying t with | some (.map kt _) => eqkIs P 8 e kt && noArr P kt | _ => false)
    | .insert t _ _ _ => (match P.underlying t with | some (.map kt _) => eqkIs P 8 e kt && noArr P kt | _ => false)
    | _ => false)
  | .ment e z => (match o with
    | .mapEntry t _ _ => (match P.underlying t with | some (.map kt el) => eqkIs P 8 e kt && noArr P kt && zeroVIs P el z | _ => false)
    | _ => false)
  | .mst => (match o with | .entryStore .. => true | _ => false)
  | .rngS => (match o with | .range t _ => (match P.underlying t with | some .string => true | _ => false) | _ => false)
  | .nxtS => (match o with | .next _ true => true | _ => false)
  | .tas t z ok => (match o with
    | .typeAssert _ _ t' ok' => Nat.beq t t' && eqBool ok ok' && zeroVIs P t z && (match P.underlying t with | some (.interface _) => false | some _ => true | none => false)
    | _ => false)
  | .ext i => (match o with | .extract _ j => Nat.beq i j | _ => false)
  | .len str => (match o with
    | .call c => (match c.callee with
      | .builtin .len => (match P.underlying (c.argTypes.getD 0 0) with | some .string => str | some (.slice _) => !str | _ => false) && !(Nat.beq c.argTypes.size 0)
      | _ => false)
    | _ => false)
  | .lenM => (match o with
    | .call c => (match c.callee with
      | .builtin .len => (match P.underlying (c.argTypes.getD 0 0) with | some (.map ..) => true | _ => false) && !(Nat.beq c.argTypes.size 0)
      | _ => false)
    | _ => false)
  | .lenA n => (match o with
    | .call c => (match c.callee with
      | .builtin .len => (match P.underlying (c.argTypes.getD 0 0) with
        | some (.array m _) => Nat.beq n m
        | some (.pointer a) => (match P.underlying a with | some (.array m _) => Nat.beq n m | _ => false)
        | _ => false) && !(Nat.beq c.argTypes.size 0)
      | _ => false)
    | _ => false)
  | .cap => (match o with
    | .call c => (match c.callee with
      | .builtin .cap => (match P.underlying (c.argTypes.getD 0 0) with | some (.slice _) => true | _ => false) && !(Nat.beq c.argTypes.size 0)
      | _ => false)
    | _ => false)
  | .app e s b => (match o with
    | .call c => (match c.callee with
      | .builtin .append => (match P.underlying (c.argTypes.getD 0 0), P.underlying (c.argTypes.getD 1 0) with
        | some (.slice e'), some (.slice e2) => Nat.beq e e' && Nat.beq e2 e2
        | some (.slice e'), some .string => Nat.beq e e'
        | _, _ => false) && Nat.ble 2 c.argTypes.size && sizeIs P e s && bytesIs P e b && !(Nat.beq s 0) && !(Nat.beq b 0) && (match P.info? e with | some i => (match i.zero with | some z => Nat.beq z.cells.size s | none => false) | none => false)
      | _ => false)
    | _ => false)
  | .copy s => (match o with
    | .call c => (match c.callee with
      | .builtin .copy => (match P.underlying (c.argTypes.getD 0 0) with | some (.slice e) => sizeIs P e s | _ => false) && !(Nat.beq c.argTypes.size 0)
      | _ => false)
    | _ => false)
  | .min => (match o with | .call c => (match c.callee with | .builtin .min => true | _ => false) | _ => false)
  | .max => (match o with | .call c => (match c.callee with | .builtin .max => true | _ => false) | _ => false)
  | .del e => (match o with
    | .call c => (match c.callee with
      | .builtin .delete => (match P.underlying (c.argTypes.getD 0 0) with | some (.map kt _) => eqkIs P 8 e kt && noArr P kt | _ => false) && !(Nat.beq c.argTypes.size 0)
      | _ => false)
    | _ => false)
  | .unsStr e' => (match o with
    | .call c => (match c.callee with
      | .builtin .unsafeString => (match P.underlying (c.argTypes.getD 0 0) with
        | some (.pointer e) => Nat.beq e' e && sizeIs P e 1 && (match P.underlying e with | some (.int .u8) => true | _ => false)
        | _ => false) && !(Nat.beq c.argTypes.size 0)
      | _ => false)
    | _ => false)
  | .unsSlD => (match o with | .call c => (match c.callee with | .builtin .unsafeSliceData => true | _ => false) | _ => false)
  | .noEsc => (match o with | .call c => (match c.callee with | .value f => externIs P f "internal/abi.NoEscape" | _ => false) | _ => false)
  | .noZero e => (match o with
    | .call c => (match c.callee with
      | .value f => externIs P f "internal/bytealg.MakeNoZero" && (match direct f with
        | some g => (match P.funcs[g]? with
          | some fn => (match fn.resultTypes[0]? with
            | some t => (match P.underlying t with | some (.slice e') => Nat.beq e e' && sizeIs P e 1 | _ => false)
            | none => false)
          | none => false)
        | none => false)
      | _ => false)
    | _ => false)
  | .idxByteStr => (match o with | .call c => (match c.callee with | .value f => externIs P f "internal/bytealg.IndexByteString" | _ => false) | _ => false)
  | .cmpStr => (match o with | .call c => (match c.callee with | .value f => externIs P f "internal/bytealg.abigen_runtime_cmpstring" | _ => false) | _ => false)
end
end Go.Am
