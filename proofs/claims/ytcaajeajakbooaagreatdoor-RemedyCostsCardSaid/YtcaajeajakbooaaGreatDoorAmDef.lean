/-
  An abstract machine for the program: its values, heaps, instructions and evaluator (definitions alone).
-/
import GoSem.Dispatch
set_option linter.unusedVariables false
set_option linter.unusedSimpArgs false
namespace Go.Am

inductive AVal where
  | any
  | bool (b : Bool)
  | int (k : IntKind) (n : Int)
  | str (s : List Nat)
  | nilptr
  | ptr (i o : Nat)
  | nilsl
  | sl (i o len lo ez : Nat)
  | nilmap
  | map (i : Nat)
  | fn (f : FuncId) (first cap : List AVal)
  | nilfn
  | iface (t : TypeId) (v : AVal)
  | niliface
  | agg (cs : List AVal)
  | tup (cs : List AVal)
  deriving Inhabited

inductive Trie (α : Type) where
  | nil
  | node (l : Trie α) (v : Option α) (r : Trie α)

noncomputable def Trie.get {α : Type} (t : Trie α) : Nat → Option α :=
  Trie.rec (motive := fun _ => Nat → Option α) (fun _ => none)
    (fun _ v _ gl gr k => Bool.rec (Bool.rec (gr (Nat.pred (Nat.div k 2))) (gl (Nat.div k 2)) (Nat.beq (Nat.mod k 2) 1)) v (Nat.beq k 0)) t

noncomputable def Trie.put {α : Type} (n : Nat) : Trie α → Nat → α → Trie α :=
  Nat.rec (motive := fun _ => Trie α → Nat → α → Trie α) (fun t _ _ => t)
    (fun _ ih t k v =>
      Trie.casesOn (motive := fun _ => Trie α) t
        (Bool.rec (Bool.rec (.node .nil none (ih .nil (Nat.pred (Nat.div k 2)) v)) (.node (ih .nil (Nat.div k 2) v) none .nil) (Nat.beq (Nat.mod k 2) 1)) (.node .nil (some v) .nil) (Nat.beq k 0))
        (fun l u r => Bool.rec (Bool.rec (.node l u (ih r (Nat.pred (Nat.div k 2)) v)) (.node (ih l (Nat.div k 2) v) u r) (Nat.beq (Nat.mod k 2) 1)) (.node l (some v) r) (Nat.beq k 0))) n

noncomputable def Trie.set {α : Type} (t : Trie α) (k : Nat) (v : α) : Trie α := Trie.put (Nat.succ k) t k v

inductive EqK where
  | b | i | s | p | ifc | sl | m | f
  | st (fs : EqK)
  | fnil
  | fcons (off n : Nat) (e rest : EqK)

structure AGrp where
  ver : Nat
  tip : Nat
  fz : Bool

inductive AObj where
  | cells (cs : List AVal) (elem : TypeId) (grp ver : Nat)
  | map (es : List (AVal × AVal × Nat)) (clock : Nat) (pm : Bool)
  | siter (s : List Nat) (pos : Nat)

structure AHeap where
  next : Nat
  objs : Trie AObj
  grps : Trie AGrp

noncomputable def AHeap.grp (H : AHeap) (g : Nat) : AGrp := match H.grps.get g with | some x => x | none => ⟨0, g, false⟩
noncomputable def AHeap.newObj (H : AHeap) (o : AObj) : AHeap := match H with | ⟨n, ob, g⟩ => ⟨Nat.succ n, ob.set n o, g⟩
noncomputable def AHeap.setObj (H : AHeap) (i : Nat) (o : AObj) : AHeap := match H with | ⟨n, ob, g⟩ => ⟨n, ob.set i o, g⟩
noncomputable def AHeap.setGrp (H : AHeap) (i : Nat) (o : AGrp) : AHeap := match H with | ⟨n, ob, g⟩ => ⟨n, ob, g.set i o⟩
noncomputable def AHeap.new (H : AHeap) (cs : List AVal) (elem : TypeId) : AHeap := H.newObj (.cells cs elem H.next 0)
noncomputable def AHeap.live (H : AHeap) (i : Nat) : Option (List AVal × TypeId × Nat) :=
  match H.objs.get i with
  | some (.cells cs e g v) => bif Nat.beq v (H.grp g).ver then some (cs, e, g) else none
  | _ => none

noncomputable def nth (l : List AVal) : Nat → Option AVal :=
  List.rec (motive := fun _ => Nat → Option AVal) (fun _ => none) (fun x _ ih n => Nat.rec (motive := fun _ => Option AVal) (some x) (fun m _ => ih m) n) l

noncomputable def AHeap.cell (H : AHeap) (i o : Nat) : Option AVal := match H.live i with | some (cs, _, _) => nth cs o | none => none
noncomputable def AHeap.cellsAt (H : AHeap) (i o n : Nat) : Option (List AVal) :=
  match H.live i with
  | some (cs, _, _) => bif Nat.ble (Nat.add o n) cs.length then some ((cs.drop o).take n) else none
  | none => none
def flat : AVal → Bool
  | .agg _ | .tup _ => false
  | _ => true
def setAt (cs : List AVal) (o : Nat) : List AVal → List AVal
  | [] => cs
  | v :: vs => setAt (cs.set o v) (o + 1) vs
noncomputable def AHeap.store (H : AHeap) (i o : Nat) (vs : List AVal) : Option AHeap :=
  match vs with
  | [] => some H
  | _ =>
  match H.live i with
  | some (cs, e, g) =>
    match H.grp g with
    | ⟨ver, tip, fz⟩ =>
      bif Nat.ble (Nat.add o vs.length) cs.length && vs.all flat && !fz && !(Nat.beq g 0) then
        bif Nat.beq tip i && Nat.beq g i then
          some (H.setObj i (.cells (setAt cs o vs) e g ver))
        else
          some ((H.setObj i (.cells (setAt cs o vs) e g (Nat.succ ver))).setGrp g ⟨Nat.succ ver, i, false⟩)
      else none
  | none => none

def acells : AVal → List AVal
  | .agg cs => cs
  | v => [v]

def eqNats : List Nat → List Nat → Bool
  | [], [] => true
  | a :: x, b :: y => Nat.beq a b && eqNats x y
  | _, _ => false

def eqStr : List Nat → List Nat → Bool
  | [], [] => true
  | a :: x, b :: y => Nat.beq a b && eqStr x y
  | _, _ => false
def eqKind (a b : IntKind) : Bool := match a, b with
  | .i64, .i64 | .u8, .u8 | .u64, .u64 | .i32, .i32 | .u32, .u32 | .u16, .u16 | .i16, .i16 | .i8, .i8 => true | _, _ => false
def eqInt (a b : Int) : Bool := match a, b with
  | .ofNat a, .ofNat b => Nat.beq a b | .negSucc a, .negSucc b => Nat.beq a b | _, _ => false
def leInt (a b : Int) : Bool := match a, b with
  | .ofNat a, .ofNat b => Nat.ble a b | .negSucc a, .negSucc b => Nat.ble b a | .negSucc _, .ofNat _ => true | .ofNat _, .negSucc _ => false
def eqBool (a b : Bool) : Bool := match a, b with | true, true => true | false, false => true | _, _ => false

noncomputable def part (n : Nat) (cs : List AVal) (off : Nat) : Option AVal :=
  match n with
  | 0 => nth cs off
  | n + 1 => some (.agg ((cs.drop off).take (n + 1)))

def aeqB (x y : AVal) : Option Bool := match x, y with | .bool a, .bool b => some (eqBool a b) | _, _ => none
def aeqI (x y : AVal) : Option Bool := match x, y with | .int k a, .int k' b => (bif eqKind k k' then some (eqInt a b) else none) | _, _ => none
def aeqS (x y : AVal) : Option Bool := match x, y with | .str a, .str b => some (eqStr a b) | _, _ => none
def aeqP (x y : AVal) : Option Bool :=
  match x, y with
  | .nilptr, .nilptr => some true
  | .nilptr, .ptr .. => some false
  | .ptr .., .nilptr => some false
  | .ptr i o, .ptr i' o' => (bif Nat.beq i i' then some (Nat.beq o o') else none)
  | _, _ => none
def aeqIfc (x y : AVal) : Option Bool :=
  match x, y with
  | .niliface, .niliface => some true
  | .niliface, .iface .. => some false
  | .iface .., .niliface => some false
  | _, _ => none
def aeqSl (x y : AVal) : Option Bool :=
  match x, y with
  | .nilsl, .nilsl => some true
  | .nilsl, .sl .. => some false
  | .sl .., .nilsl => some false
  | _, _ => none
def aeqM (x y : AVal) : Option Bool :=
  match x, y with
  | .nilmap, .nilmap => some true
  | .nilmap, .map _ => some false
  | .map _, .nilmap => some false
  | _, _ => none
def aeqF (x y : AVal) : Option Bool :=
  match x, y with
  | .nilfn, .nilfn => some true
  | .nilfn, .fn .. => some false
  | .fn .., .nilfn => some false
  | _, _ => none
def aeqSt (f : AVal → AVal → Option Bool) (x y : AVal) : Option Bool := match x, y with | .agg _, .agg _ => f x y | _, _ => none
noncomputable def aeqC (off n : Nat) (f g : AVal → AVal → Option Bool) (x y : AVal) : Option Bool :=
  match x, y with
  | .agg xs, .agg ys =>
    (match part n xs off, part n ys off with
    | some a, some b => (match f a b with | some true => g x y | r => r)
    | _, _ => none)
  | _, _ => none
noncomputable def aeq (e : EqK) : AVal → AVal → Option Bool :=
  EqK.rec (motive := fun _ => AVal → AVal → Option Bool) aeqB aeqI aeqS aeqP aeqIfc aeqSl aeqM aeqF (fun _ f => aeqSt f) (fun _ _ => some true)
    (fun off n _ _ f g => aeqC off n f g) e

def bytesLessN : List Nat → List Nat → Bool
  | _, [] => false
  | [], _ :: _ => true
  | a :: x, b :: y => Nat.blt a b || (Nat.beq a b && bytesLessN x y)

def awrap (k : IntKind) (n : Int) : Int :=
  match k, n with
  | .i64, .ofNat m => bif Nat.blt m 9223372036854775808 then n else k.wrap n
  | .u8, .ofNat m => Int.ofNat (Nat.mod m 256)
  | .i32, .ofNat m => bif Nat.blt m 2147483648 then n else k.wrap n
  | .u64, .ofNat m => Int.ofNat (Nat.mod m 18446744073709551616)
  | .u32, .ofNat m => Int.ofNat (Nat.mod m 4294967296)
  | .u16, .ofNat m => Int.ofNat (Nat.mod m 65536)
  | k, n => k.wrap n

def iAdd (k : IntKind) (a b : Int) : Option AVal := some (.int k (awrap k (Int.add a b)))
def iSub (k : IntKind) (a b : Int) : Option AVal := some (.int k (awrap k (Int.sub a b)))
def iMul (k : IntKind) (a b : Int) : Option AVal := some (.int k (awrap k (Int.mul a b)))
def iQuo (k : IntKind) (a b : Int) : Option AVal := bif eqInt b 0 then none else some (.int k (awrap k (a.tdiv b)))
def iRem (k : IntKind) (a b : Int) : Option AVal := bif eqInt b 0 then none else some (.int k (a.tmod b))
def iAnd (k : IntKind) (a b : Int) : Option AVal := match k, a, b with
    | .u16, .ofNat a, .ofNat b => some (.int k (awrap k (Int.ofNat (Nat.land a b))))
    | .u8, .ofNat a, .ofNat b => some (.int k (awrap k (Int.ofNat (Nat.land a b))))
    | _, _, _ => some (.int k (k.wrap (BitVec.ofInt k.bits a &&& BitVec.ofInt k.bits b).toNat))
def iOr (k : IntKind) (a b : Int) : Option AVal := some (.int k (k.wrap (BitVec.ofInt k.bits a ||| BitVec.ofInt k.bits b).toNat))
def iXor (k : IntKind) (a b : Int) : Option AVal := some (.int k (k.wrap (BitVec.ofInt k.bits a ^^^ BitVec.ofInt k.bits b).toNat))
def iAndNot (k : IntKind) (a b : Int) : Option AVal := some (.int k (k.wrap (BitVec.ofInt k.bits a &&& ~~~ BitVec.ofInt k.bits b).toNat))
def iEql (_ : IntKind) (a b : Int) : Option AVal := some (.bool (eqInt a b))
def iNeq (_ : IntKind) (a b : Int) : Option AVal := some (.bool (!eqInt a b))
def iLss (_ : IntKind) (a b : Int) : Option AVal := some (.bool (!leInt b a))
def iLeq (_ : IntKind) (a b : Int) : Option AVal := some (.bool (leInt a b))
def iGtr (_ : IntKind) (a b : Int) : Option AVal := some (.bool (!leInt a b))
def iGeq (_ : IntKind) (a b : Int) : Option AVal := some (.bool (leInt b a))
def iShl (k : IntKind) (a b : Int) : Option AVal := match b with | .ofNat b => some (.int k (awrap k (a * 2 ^ (min b k.bits)))) | _ => none
def iShr (k : IntKind) (a b : Int) : Option AVal := match b with | .ofNat b => some (.int k (a.fdiv (2 ^ (min b k.bits)))) | _ => none
noncomputable def intBin (op : BinOp) : IntKind → Int → Int → Option AVal :=
  BinOp.rec (motive := fun _ => IntKind → Int → Int → Option AVal)
    iAdd iSub iMul iQuo iRem iAnd iOr iXor iShl iShr iAndNot iEql iNeq iLss iLeq iGtr iGeq op

def isShift : BinOp → Bool
  | .shl => true
  | .shr => true
  | _ => false

def strBin (op : BinOp) : List Nat → List Nat → Option AVal :=
  match op with
  | .add => fun a b => bif Nat.ble (Nat.add a.length b.length) 9223372036854775807 then some (.str (a ++ b)) else none
  | .eql => fun a b => some (.bool (eqStr a b))
  | .neq => fun a b => some (.bool (!eqStr a b))
  | .lss => fun a b => some (.bool (bytesLessN a b))
  | .leq => fun a b => some (.bool (bytesLessN a b || eqStr a b))
  | .gtr => fun a b => some (.bool (!(bytesLessN a b || eqStr a b)))
  | .geq => fun a b => some (.bool (!bytesLessN a b))
  | _ => fun _ _ => none

def aun (op : UnOp) (x : AVal) : Option AVal :=
  match op, x with
  | .neg, .int k n => some (.int k (k.wrap (0 - n)))
  | .xor, .int k n => some (.int k (k.wrap (BitVec.ofInt k.bits (if k.signed then -1 else k.max) ^^^ BitVec.ofInt k.bits n).toNat))
  | .not, .bool b => some (.bool !b)
  | _, _ => none

/-- equality of two keys of a map: of plain cells, cell by cell -/
def keqL : List AVal → List AVal → Option Bool
  | [], [] => some true
  | .bool a :: x, .bool b :: y => bif eqBool a b then keqL x y else some false
  | .int k a :: x, .int k' b :: y => bif eqKind k k' then (bif eqInt a b then keqL x y else some false) else none
  | .str a :: x, .str b :: y => bif eqStr a b then keqL x y else some false
  | _, _ => none
def keq (x y : AVal) : Option Bool :=
  match x, y with
  | .bool a, .bool b => some (eqBool a b)
  | .int k a, .int k' b => bif eqKind k k' then some (eqInt a b) else none
  | .str a, .str b => some (eqStr a b)
  | .agg a, .agg b => keqL a b
  | _, _ => none
def flatK : EqK → Nat → List AVal → Bool
  | .fnil, _, [] => true
  | .fcons off n e rest, i, c :: cs =>
    Nat.beq off i && Nat.beq n 0 && (match e, c with | .b, .bool _ => true | .i, .int _ _ => true | .s, .str _ => true | _, _ => false) && flatK rest (Nat.succ i) cs
  | _, _, _ => false
def keyOk (e : EqK) (key : AVal) : Bool :=
  match e, key with
  | .b, .bool _ => true
  | .i, .int _ _ => true
  | .s, .str _ => true
  | .st l, .agg cs => flatK l 0 cs
  | _, _ => false
def afind (k : AVal) : List (AVal × AVal × Nat) → Nat → Option (Option (Nat × AVal × Nat))
  | [], _ => some none
  | (k', v, b) :: es, i => match keq k k' with
    | some true => some (some (i, v, b))
    | some false => afind k es (Nat.succ i)
    | none => none

def veqL (f : AVal → AVal → Bool) : List AVal → List AVal → Bool
  | [], [] => true
  | a :: x, b :: y => f a b && veqL f x y
  | _, _ => false
def eqO (a b : Bool) : Bool := eqBool a b
def veq : Nat → AVal → AVal → Bool
  | 0, _, _ => false
  | n + 1, x, y => match x, y with
    | .bool a, .bool b => eqBool a b
    | .int k a, .int k' b => eqKind k k' && eqInt a b
    | .str a, .str b => eqStr a b
    | .nilptr, .nilptr => true
    | .ptr i o, .ptr i' o' => Nat.beq i i' && Nat.beq o o'
    | .nilsl, .nilsl => true
    | .sl i o l c e, .sl i' o' l' c' e' => Nat.beq i i' && Nat.beq o o' && Nat.beq l l' && Nat.beq c c' && Nat.beq e e'
    | .nilmap, .nilmap => true
    | .map i, .map j => Nat.beq i j
    | .fn f a b, .fn g c d => Nat.beq f g && veqL (veq n) a c && veqL (veq n) b d
    | .nilfn, .nilfn => true
    | .iface t v, .iface u w => Nat.beq t u && veq n v w
    | .niliface, .niliface => true
    | .agg a, .agg b => veqL (veq n) a b
    | .tup a, .tup b => veqL (veq n) a b
    | _, _ => false

/-- parts put into cells: places are (offset, size) in the order of the values -/
def afill : List AVal → List (Nat × Nat) → List AVal → Option (List AVal)
  | cells, [], [] => some cells
  | cells, (off, size) :: ps, v :: vs =>
    bif Nat.beq (acells v).length size && Nat.ble (Nat.add off size) cells.length then afill (setAt cells off (acells v)) ps vs else none
  | _, _, _ => none

def alen : AVal → Option Nat
  | .str s => some s.length
  | .nilsl => some 0
  | .sl _ _ n _ _ => some n
  | _ => none

def byteCells : List Nat → List AVal
  | [] => []
  | b :: l => .int .u8 (Int.ofNat b) :: byteCells l
def cellBytes : List AVal → Option (List Nat)
  | [] => some []
  | .int .u8 (.ofNat b) :: l => bif Nat.blt b 256 then (match cellBytes l with | some r => some (b :: r) | none => none) else none
  | _ => none
def repl (z : List AVal) : Nat → List AVal
  | 0 => []
  | n + 1 => z ++ repl z n

noncomputable def elemsOf (H : AHeap) (size n : Nat) (v : AVal) : Option (List AVal) :=
  match v with
  | .str s => bif Nat.beq size 1 then some (byteCells (s.take n)) else none
  | .nilsl => some []
  | .sl i o _ _ _ => bif Nat.beq (Nat.mul n size) 0 then some [] else H.cellsAt i o (Nat.mul n size)
  | _ => none

/-- what an operation does: a value; a value read off the heap; a new object; a change of the heap -/
inductive Act where
  | bad
  | val (v : AVal)
  | rd (f : AHeap → Option AVal)
  | new (v : Nat → AVal) (o : Nat → AObj)
  | eff (f : AHeap → Option (AVal × AHeap))

def someVal (v : Option AVal) : Act := match v with | some v => .val v | none => .bad
def newCells (v : Nat → AVal) (cs : List AVal) (elem : TypeId) : Act := .new v (fun i => .cells cs elem i 0)

noncomputable def appTo (elem size bytes n : Nat) (new : List AVal) (s : AVal) (H : AHeap) : Option (AVal × AHeap) :=
  match s with
  | .nilsl =>
    bif Nat.beq n 0 then some (.nilsl, H) else
    bif Nat.ble (Nat.mul (Nat.add (Nat.mul 2 n) 192) bytes) 281474976710656 then some (.sl H.next 0 n n size, H.new new elem)
    else none
  | .sl i o len lo ez =>
    bif Nat.ble (Nat.add len n) lo then
      match H.store i (Nat.add o (Nat.mul len size)) new with
      | some H' => some (.sl i o (Nat.add len n) lo ez, H')
      | none => none
    else bif Nat.ble (Nat.mul (Nat.add (Nat.mul 2 (Nat.add len n)) 192) bytes) 281474976710656 then
      match elemsOf H size len s with
      | none => none
      | some old =>
        bif !old.all flat then none else
        bif Nat.beq ez 0 then some (.sl H.next 0 (Nat.add len n) (Nat.add len n) size, H.new (old ++ new) elem)
        else match H.live i with
          | some (cs, e, g) =>
            match H.grp g with
            | ⟨ver, tip, fz⟩ =>
              bif Nat.beq e elem && !(Nat.beq g 0) && !fz && Nat.beq tip i && Nat.beq (Nat.add o (Nat.mul len size)) cs.length && Nat.beq (Nat.mod o size) 0 then
                some (.sl H.next 0 (Nat.add len n) (Nat.add len n) size, (H.newObj (.cells (old ++ new) elem g ver)).setGrp g ⟨ver, H.next, false⟩)
              else none
          | none => none
    else none
  | _ => none

inductive ConvK where
  | int (k : IntKind) | same | ptrUns (n : Nat) | unsPtr (u n : Nat) | bytes (elem : TypeId) | strOfBytes

inductive K where
  | mov
  | pick
  | alloc (elem : TypeId) (z : List AVal)
  | box (elem : TypeId)
  | build (z : List AVal) (ps : List (Nat × Nat))
  | buildSl (elem len : Nat) (z : List AVal) (ps : List (Nat × Nat))
  | load1
  | loadN (n : Nat)
  | store (n : Nat)
  | nilChk
  | bin (op : BinOp) (e : EqK)
  | un (op : UnOp)
  | conv (c : ConvK)
  | ifc (t : TypeId)
  | clos (f : FuncId) (nfirst : Nat)
  | mkMap
  | mkSl (elem bytes : Nat) (z : List AVal)
  | slS (lo hi : Bool)
  | slE (size : Nat) (lo hi mx : Bool)
  | slA (n size : Nat) (lo hi : Bool)
  | fadr (off : Nat)
  | fld (off n : Nat)
  | iadrS (size : Nat)
  | iadrA (len size : Nat)
  | idxS
  | idxA (len size n : Nat)
  | look (e : EqK) (z : AVal) (ok : Bool)
  | mset (e : EqK)
  | ment (e : EqK) (z : AVal)
  | mst
  | rngS
  | nxtS
  | tas (t : TypeId) (z : AVal) (ok : Bool)
  | ext (i : Nat)
  | len (str : Bool)
  | lenM
  | lenA (n : Nat)
  | cap
  | app (elem size bytes : Nat)
  | copy (size : Nat)
  | min
  | max
  | del (e : EqK)
  | unsStr (e : TypeId)
  | unsSlD
  | noEsc
  | noZero (elem : TypeId)
  | idxByteStr
  | cmpStr

def aMov (as : List AVal) : Act := match as with | [v] => .val v | _ => .bad
def aPick (as : List AVal) : Act := match as with | [.bool c, a, b] => .val (bif c then a else b) | _ => .bad
def aAlloc (elem : TypeId) (z : List AVal) (as : List AVal) : Act := match as with | [] => newCells (fun i => .ptr i 0) z elem | _ => .bad
def aBox (elem : TypeId) (as : List AVal) : Act := match as with | [v] => newCells (fun i => .ptr i 0) (acells v) elem | _ => .bad
def aBuild (z : List AVal) (ps : List (Nat × Nat)) (as : List AVal) : Act := match afill z ps as with | some cs => .val (.agg cs) | none => .bad
def aBuildSl (elem len : Nat) (z : List AVal) (ps : List (Nat × Nat)) (as : List AVal) : Act :=
  match afill (repl z len) ps as with | some cs => newCells (fun i => .sl i 0 len len 0) cs elem | none => .bad
noncomputable def aLoad1 (as : List AVal) : Act := match as with | [.ptr i o] => .rd (fun H => H.cell i o) | _ => .bad
noncomputable def rLoadN (i o n : Nat) (H : AHeap) : Option AVal := match H.cellsAt i o n with | some cs => some (.agg cs) | none => none
noncomputable def aLoadN (n : Nat) (as : List AVal) : Act := match as with | [.ptr i o] => .rd (rLoadN i o n) | _ => .bad
noncomputable def eStore (i o : Nat) (cs : List AVal) (H : AHeap) : Option (AVal × AHeap) := match H.store i o cs with | some H' => some (.tup [], H') | none => none
noncomputable def aStore (n : Nat) (as : List AVal) : Act :=
  match as with
  | [.ptr i o, v] => bif Nat.beq (acells v).length n then .eff (eStore i o (acells v)) else .bad
  | _ => .bad
def aNilChk (as : List AVal) : Act := match as with | [.ptr i o] => .val (.ptr i o) | [.fn f a b] => .val (.fn f a b) | _ => .bad
def mapB (f : Bool → Bool) (r : Option Bool) : Act := match r with | some b => .val (.bool (f b)) | none => .bad
noncomputable def aBin (op : BinOp) (e : EqK) (as : List AVal) : Act :=
  match as with
  | [.int ka a, .int kb b] => bif isShift op || eqKind ka kb then someVal (intBin op ka a b) else .bad
  | [.str a, .str b] => someVal (strBin op a b)
  | [a, b] => (match op with
    | .eql => mapB id (aeq e a b)
    | .neq => mapB not (aeq e a b)
    | _ => .bad)
  | _ => .bad
def aUn (op : UnOp) (as : List AVal) : Act := match as with | [v] => someVal (aun op v) | _ => .bad
noncomputable def rPtrUns (i o : Nat) (H : AHeap) : Option AVal :=
  match H.live i with | some (cs, _, _) => bif Nat.blt o cs.length then some (.ptr i o) else none | none => none
noncomputable def rUnsPtr (u n i o : Nat) (H : AHeap) : Option AVal :=
  match H.live i with
  | some (cs, e, _) => bif Nat.beq e u && Nat.beq (Nat.mod o n) 0 && Nat.ble (Nat.add o n) cs.length then some (.ptr i o) else none
  | none => none
noncomputable def rStrOf (i o n : Nat) (H : AHeap) : Option AVal :=
  match H.cellsAt i o n with
  | some cs => (match cellBytes cs with | some b => some (.str b) | none => none)
  | none => none
def cInt (kd : IntKind) (as : List AVal) : Act := match as with | [.int _ n] => .val (.int kd (awrap kd n)) | _ => .bad
def cSame (as : List AVal) : Act := match as with | [.str s] => .val (.str s) | _ => .bad
noncomputable def cPtrUns (n : Nat) (as : List AVal) : Act :=
  match as with | [.nilptr] => .val .nilptr | [.ptr i o] => (bif Nat.beq n 0 then .bad else .rd (rPtrUns i o)) | _ => .bad
noncomputable def cUnsPtr (u n : Nat) (as : List AVal) : Act :=
  match as with | [.nilptr] => .val .nilptr | [.ptr i o] => (bif Nat.beq n 0 then .bad else .rd (rUnsPtr u n i o)) | _ => .bad
def cBytes (elem : TypeId) (as : List AVal) : Act := match as with | [.str s] => newCells (fun i => .sl i 0 s.length s.length 1) (byteCells s) elem | _ => .bad
noncomputable def cStrOf (as : List AVal) : Act :=
  match as with
  | [.nilsl] => .val (.str [])
  | [.sl i o n _ _] => bif Nat.beq n 0 then .val (.str []) else .rd (rStrOf i o n)
  | _ => .bad
noncomputable def aConv (c : ConvK) : List AVal → Act :=
  ConvK.rec (motive := fun _ => List AVal → Act) cInt cSame cPtrUns cUnsPtr cBytes cStrOf c
def aIfc (t : TypeId) (as : List AVal) : Act := match as with | [v] => .val (.iface t v) | _ => .bad
def aClos (f : FuncId) (n : Nat) (as : List AVal) : Act := .val (.fn f (as.take n) (as.drop n))
def aMkMap (_ : List AVal) : Act := .new (fun i => .map i) (fun _ => .map [] 0 false)
def aMkSl (elem bytes : Nat) (z : List AVal) (as : List AVal) : Act :=
  match as with
  | [.int _ (.ofNat l), .int _ (.ofNat c)] =>
    bif Nat.ble l c && Nat.ble c 1152921504606846975 && Nat.ble (Nat.mul c bytes) 140737488355328 then newCells (fun i => .sl i 0 l c 0) (repl z c) elem else .bad
  | _ => .bad
/-- the bounds of a slice expression out of the operands that are there -/
def bnds (lo hi mx : Bool) (as : List AVal) : Option (Option Nat × Option Nat × Option Nat) :=
  match lo, hi, mx, as with
  | false, false, false, [] => some (none, none, none)
  | true, false, false, [.int _ (.ofNat l)] => some (some l, none, none)
  | false, true, false, [.int _ (.ofNat h)] => some (none, some h, none)
  | true, true, false, [.int _ (.ofNat l), .int _ (.ofNat h)] => some (some l, some h, none)
  | false, true, true, [.int _ (.ofNat h), .int _ (.ofNat m)] => some (none, some h, some m)
  | true, true, true, [.int _ (.ofNat l), .int _ (.ofNat h), .int _ (.ofNat m)] => some (some l, some h, some m)
  | _, _, _, _ => none
def dflt (d : Nat) (o : Option Nat) : Nat := match o with | some n => n | none => d
def aSlS (lo hi : Bool) (as : List AVal) : Act :=
  match as with
  | .str s :: r => (match bnds lo hi false r with
    | some (l, h, _) =>
      bif Nat.ble (dflt 0 l) (dflt s.length h) && Nat.ble (dflt s.length h) s.length then .val (.str ((s.take (dflt s.length h)).drop (dflt 0 l))) else .bad
    | none => .bad)
  | _ => .bad
def slRes (i o size l h m ez : Nat) : AVal :=
  bif Nat.beq m l && Nat.beq ez 0 then .sl i o (Nat.sub h l) (Nat.sub m l) 0 else .sl i (Nat.add o (Nat.mul l size)) (Nat.sub h l) (Nat.sub m l) ez
def aSlE (size : Nat) (lo hi mx : Bool) (as : List AVal) : Act :=
  match as with
  | .nilsl :: r => (match bnds lo hi mx r with
    | some (l, h, m) => bif Nat.beq (dflt 0 l) 0 && Nat.beq (dflt 0 h) 0 && Nat.beq (dflt 0 m) 0 then .val .nilsl else .bad
    | none => .bad)
  | .sl i o len cap ez :: r => (match bnds lo hi mx r with
    | some (l, h, m) =>
      bif (Nat.beq ez 0 || Nat.beq ez size) && (Nat.ble (dflt cap m) cap && (Nat.ble (dflt 0 l) (dflt len h) && Nat.ble (dflt len h) (dflt cap m))) then
        .val (slRes i o size (dflt 0 l) (dflt len h) (dflt cap m) (bif mx && !(Nat.beq cap 0) then 0 else ez))
      else .bad
    | none => .bad)
  | _ => .bad
def aSlA (n size : Nat) (lo hi : Bool) (as : List AVal) : Act :=
  match as with
  | .ptr i o :: r => (match bnds lo hi false r with
    | some (l, h, _) =>
      bif Nat.ble (dflt 0 l) (dflt n h) && Nat.ble (dflt n h) n then .val (slRes i o size (dflt 0 l) (dflt n h) n 0) else .bad
    | none => .bad)
  | _ => .bad
def aFadr (off : Nat) (as : List AVal) : Act := match as with | [.ptr i o] => .val (.ptr i (Nat.add o off)) | _ => .bad
noncomputable def aFld (off n : Nat) (as : List AVal) : Act := match as with | [.agg cs] => someVal (part n cs off) | _ => .bad
def aIadrS (size : Nat) (as : List AVal) : Act :=
  match as with | [.sl i o len _ _, .int _ (.ofNat n)] => bif Nat.blt n len then .val (.ptr i (Nat.add o (Nat.mul n size))) else .bad | _ => .bad
def aIadrA (len size : Nat) (as : List AVal) : Act :=
  match as with | [.ptr i o, .int _ (.ofNat n)] => bif Nat.blt n len then .val (.ptr i (Nat.add o (Nat.mul n size))) else .bad | _ => .bad
def nthN : List Nat → Nat → Option Nat
  | [], _ => none
  | x :: xs, n => match n with | 0 => some x | n + 1 => nthN xs n
def aIdxS (as : List AVal) : Act :=
  match as with | [.str s, .int _ (.ofNat n)] => (match nthN s n with | some b => .val (.int .u8 (Int.ofNat b)) | none => .bad) | _ => .bad
noncomputable def aIdxA (len size n : Nat) (as : List AVal) : Act :=
  match as with | [.agg cs, .int _ (.ofNat j)] => bif Nat.blt j len then someVal (part n cs (Nat.mul j size)) else .bad | _ => .bad
def lookRes (z : AVal) (ok : Bool) (r : Option (Option (Nat × AVal × Nat))) : Option AVal :=
  match r with
  | some (some (_, v, _)) => some (bif ok then .tup [v, .bool true] else v)
  | some none => some (bif ok then .tup [z, .bool false] else z)
  | none => none
noncomputable def rLook (z : AVal) (ok : Bool) (i : Nat) (key : AVal) (H : AHeap) : Option AVal :=
  match H.objs.get i with
  | some (.map es _ _) => lookRes z ok (afind key es 0)
  | _ => none
noncomputable def aLook (e : EqK) (z : AVal) (ok : Bool) (as : List AVal) : Act :=
  match as with
  | [.nilmap, key] => bif keyOk e key then someVal (lookRes z ok (some none)) else .bad
  | [.map i, key] => bif keyOk e key then .rd (rLook z ok i key) else .bad
  | _ => .bad
def setE (es : List (AVal × AVal × Nat)) (j : Nat) (e : AVal × AVal × Nat) : List (AVal × AVal × Nat) := es.set j e
noncomputable def eMset (i : Nat) (key v : AVal) (H : AHeap) : Option (AVal × AHeap) :=
  match H.objs.get i with
  | some (.map es clock false) => (match afind key es 0 with
    | some (some (j, _, b)) => some (.tup [], H.setObj i (.map (setE es j (key, v, b)) clock false))
    | some none => some (.tup [], H.setObj i (.map (es ++ [(key, v, clock)]) (Nat.succ clock) false))
    | none => none)
  | _ => none
noncomputable def aMset (e : EqK) (as : List AVal) : Act := match as with | [.map i, key, v] => bif keyOk e key then .eff (eMset i key v) else .bad | _ => .bad
noncomputable def eMent (z : AVal) (i : Nat) (key : AVal) (H : AHeap) : Option (AVal × AHeap) :=
  match H.objs.get i with
  | some (.map es clock false) => (match afind key es 0 with
    | some (some (j, v, b)) => some (.tup [v, .int .i64 (Int.ofNat b)], H.setObj i (.map (setE es j (key, v, b)) clock false))
    | some none => some (.tup [z, .int .i64 (Int.ofNat clock)], H.setObj i (.map (es ++ [(key, z, clock)]) (Nat.succ clock) false))
    | none => none)
  | _ => none
noncomputable def aMent (e : EqK) (z : AVal) (as : List AVal) : Act := match as with | [.map i, key] => bif keyOk e key then .eff (eMent z i key) else .bad | _ => .bad
def findBorn (b : Nat) : List (AVal × AVal × Nat) → Nat → Option (Nat × AVal)
  | [], _ => none
  | (k, _, b') :: es, i => bif Nat.beq b' b then some (i, k) else findBorn b es (Nat.succ i)
noncomputable def eMst (i b : Nat) (v : AVal) (H : AHeap) : Option (AVal × AHeap) :=
  match H.objs.get i with
  | some (.map es clock false) => (match findBorn b es 0 with
    | some (j, key) => some (.tup [], H.setObj i (.map (setE es j (key, v, b)) clock false))
    | none => none)
  | _ => none
noncomputable def aMst (as : List AVal) : Act := match as with | [.map i, .int _ (.ofNat b), v] => .eff (eMst i b v) | _ => .bad
def aRngS (as : List AVal) : Act := match as with | [.str s] => .new (fun i => .ptr i 0) (fun _ => .siter s 0) | _ => .bad
noncomputable def eNxtS (i : Nat) (H : AHeap) : Option (AVal × AHeap) :=
  match H.objs.get i with
  | some (.siter s pos) =>
    bif Nat.blt pos s.length then
      (match Utf8.decode ⟨(s.map UInt8.ofNat).toArray⟩ pos with
      | (c, w) => some (.tup [.bool true, .int .i64 (Int.ofNat pos), .int .i32 c], H.setObj i (.siter s (Nat.add pos w))))
    else some (.tup [.bool false], H)
  | _ => none
noncomputable def aNxtS (as : List AVal) : Act := match as with | [.ptr i 0] => .eff (eNxtS i) | _ => .bad
def aTas (t : TypeId) (z : AVal) (ok : Bool) (as : List AVal) : Act :=
  match as with
  | [.niliface] => bif ok then .val (.tup [z, .bool false]) else .bad
  | [.iface u y] => bif Nat.beq u t then .val (bif ok then .tup [y, .bool true] else y) else bif ok then .val (.tup [z, .bool false]) else .bad
  | _ => .bad
noncomputable def aExt (i : Nat) (as : List AVal) : Act := match as with | [.tup vs] => someVal (nth vs i) | _ => .bad
def aLen (str : Bool) (as : List AVal) : Act :=
  match as with
  | [.str s] => bif str then .val (.int .i64 (Int.ofNat s.length)) else .bad
  | [.nilsl] => bif str then .bad else .val (.int .i64 0)
  | [.sl _ _ n _ _] => bif str then .bad else .val (.int .i64 (Int.ofNat n))
  | _ => .bad
noncomputable def rLenM (i : Nat) (H : AHeap) : Option AVal := match H.objs.get i with | some (.map es _ _) => some (.int .i64 (Int.ofNat es.length)) | _ => none
noncomputable def aLenM (as : List AVal) : Act :=
  match as with
  | [.nilmap] => .val (.int .i64 0)
  | [.map i] => .rd (rLenM i)
  | _ => .bad
def aLenA (n : Nat) (as : List AVal) : Act := match as with | [_] => .val (.int .i64 (Int.ofNat n)) | _ => .bad
def aCap (as : List AVal) : Act :=
  match as with | [.sl _ _ _ c 0] => .val (.int .i64 (Int.ofNat c)) | [.nilsl] => .val (.int .i64 0) | _ => .bad
noncomputable def eApp (elem size bytes : Nat) (s x : AVal) (H : AHeap) : Option (AVal × AHeap) :=
  match alen x with
  | some n => (match elemsOf H size n x with
    | some new => bif new.all flat then appTo elem size bytes n new s H else none
    | none => none)
  | none => none
noncomputable def aApp (elem size bytes : Nat) (as : List AVal) : Act := match as with | [s, x] => .eff (eApp elem size bytes s x) | _ => .bad
noncomputable def eCopy (size : Nat) (d s : AVal) (H : AHeap) : Option (AVal × AHeap) :=
  match alen s, alen d with
  | some a, some b => (match elemsOf H size (bif Nat.ble a b then a else b) s with
    | some cs => (match d with
      | .nilsl => some (.int .i64 0, H)
      | .sl i o _ _ _ => (match H.store i o cs with | some H' => some (.int .i64 (Int.ofNat (bif Nat.ble a b then a else b)), H') | none => none)
      | _ => none)
    | none => none)
  | _, _ => none
noncomputable def aCopy (size : Nat) (as : List AVal) : Act := match as with | [d, s] => .eff (eCopy size d s) | _ => .bad
def minI (k : IntKind) : Int → List AVal → Option AVal
  | x, [] => some (.int k x)
  | x, .int k' y :: r => bif eqKind k k' then minI k (bif leInt x y then x else y) r else none
  | _, _ => none
def maxI (k : IntKind) : Int → List AVal → Option AVal
  | x, [] => some (.int k x)
  | x, .int k' y :: r => bif eqKind k k' then maxI k (bif leInt y x then x else y) r else none
  | _, _ => none
def aMin (as : List AVal) : Act := match as with | .int kd x :: r => someVal (minI kd x r) | _ => .bad
def aMax (as : List AVal) : Act := match as with | .int kd x :: r => someVal (maxI kd x r) | _ => .bad
noncomputable def eDel (i : Nat) (key : AVal) (H : AHeap) : Option (AVal × AHeap) :=
  match H.objs.get i with
  | some (.map es clock false) => (match afind key es 0 with
    | some (some (j, _, _)) => some (.tup [], H.setObj i (.map (es.eraseIdx j) clock false))
    | some none => some (.tup [], H)
    | none => none)
  | _ => none
noncomputable def aDel (e : EqK) (as : List AVal) : Act := match as with | [.map i, key] => bif keyOk e key then .eff (eDel i key) else .bad | _ => .bad
noncomputable def eUnsStr (e i o n : Nat) (H : AHeap) : Option (AVal × AHeap) :=
  match H.live i, H.cellsAt i o n with
  | some (_, e', g), some cs =>
    (match H.grp g, cellBytes cs with
    | ⟨ver, tip, _⟩, some s => bif Nat.beq g 0 || !(Nat.beq e e') || !(Nat.ble n 281474976710656) then none else some (.str s, H.setGrp g ⟨ver, tip, true⟩)
    | _, none => none)
  | _, _ => none
noncomputable def aUnsStr (e : TypeId) (as : List AVal) : Act :=
  match as with
  | [.ptr i o, .int _ (.ofNat n)] => bif Nat.beq n 0 then .val (.str []) else .eff (eUnsStr e i o n)
  | [.nilptr, .int _ (.ofNat n)] => bif Nat.beq n 0 then .val (.str []) else .bad
  | _ => .bad
def aUnsSlD (as : List AVal) : Act :=
  match as with
  | [.nilsl] => .val .nilptr
  | [.sl i o _ lo _] => bif Nat.beq lo 0 then .bad else .val (.ptr i o)
  | _ => .bad
noncomputable def eNoZero (elem n : Nat) (H : AHeap) : Option (AVal × AHeap) := some (.sl H.next 0 n n 1, H.new (repl [.any] n) elem)
noncomputable def aNoZero (elem : TypeId) (as : List AVal) : Act :=
  match as with
  | [.int .i64 (.ofNat n)] => bif Nat.ble n 281474976710656 then .eff (eNoZero elem n) else .bad
  | _ => .bad
def findByte (c : Nat) : List Nat → Nat → Int
  | [], _ => -1
  | b :: l, i => bif Nat.beq b c then Int.ofNat i else findByte c l (Nat.succ i)
def aIdxByteStr (as : List AVal) : Act :=
  match as with
  | [.str s, .int .u8 (.ofNat c)] => bif Nat.blt c 256 then .val (.int .i64 (findByte c s 0)) else .bad
  | _ => .bad
def aCmpStr (as : List AVal) : Act :=
  match as with | [.str a, .str b] => .val (.int .i64 (bif bytesLessN a b then -1 else bif bytesLessN b a then 1 else 0)) | _ => .bad

noncomputable def actK (o : K) : List AVal → Act :=
  K.rec (motive := fun _ => List AVal → Act)
    aMov aPick aAlloc aBox aBuild aBuildSl aLoad1 aLoadN aStore aNilChk aBin aUn aConv aIfc aClos aMkMap aMkSl aSlS aSlE aSlA aFadr aFld aIadrS aIadrA aIdxS aIdxA aLook aMset aMent aMst aRngS aNxtS aTas aExt aLen aLenM aLenA aCap aApp aCopy aMin aMax aDel aUnsStr aUnsSlD aMov aNoZero aIdxByteStr aCmpStr o

noncomputable def stepK (o : K) (vs : List AVal) (H : AHeap) : Option (AVal × AHeap) :=
  match actK o vs with
  | .bad => none
  | .val v => some (v, H)
  | .rd f => (match f H with | some v => some (v, H) | none => none)
  | .new v ob => some (v H.next, H.newObj (ob H.next))
  | .eff f => f H

/-- operands: the result of the j-th instruction before (in this region), a slot of the frame, a constant -/
inductive Opd where
  | loc (j : Nat)
  | slot (t : Nat)
  | lit (v : AVal)

inductive Ins where
  | op (k : K) (as : List Opd)
  | call (as : List Opd)
  | callF (f : FuncId) (as : List Opd)
  | defer (g : FuncId) (as : List Opd)
  | recov
  | panic (a : Opd)
  | keep (t : Nat)
  | asg (t : Nat) (a : Opd)
  | gd (g : Opd) (want : Bool) (i : Ins)
  | chk (k : K) (as : List Opd) (j : Nat)
  | gchk (g : Opd) (want : Bool) (k : K) (as : List Opd) (j : Nat)
  | mlit (e : EqK) (es : List (AVal × AVal × Nat)) (hs : List (K × List AVal)) (d1 d2 : Nat)

inductive Cd where
  | skip
  | seq (a b : Cd)
  | cond (o : Opd) (a b : Cd)
  | block (id : Nat) (c : Cd)
  | loop (c : Cd)
  | exit (id : Nat)
  | ret
  | reg (l : List Ins)
  | dreg (perm : List Nat) (l : List Ins)

inductive RV where
  | tmp (t : Nat)
  | cell1 (t : Nat)
  | cellN (t n : Nat)

structure Fn where
  body : Cd
  res : List RV
  defers : Bool
  mask : Nat
  np : Nat

abbrev Env := Trie AVal
abbrev EK := Env → AHeap → Bool
structure KS where
  kx : Nat → EK
  kr : EK
  kp : AVal → EK
abbrev Cont := AVal → AHeap → Bool
abbrev CallT := FuncId → List AVal → AHeap → Cont → Cont → Bool

noncomputable def oLoc (j : Nat) (L : List AVal) (_ : Env) (k : AVal → Bool) : Bool :=
  List.rec (motive := fun _ => Nat → Bool) (fun _ => false) (fun x _ ih n => Nat.rec (motive := fun _ => Bool) (k x) (fun m _ => ih m) n) L j
noncomputable def oSlot (t : Nat) (_ : List AVal) (env : Env) (k : AVal → Bool) : Bool :=
  Option.rec (motive := fun _ => Bool) false k (env.get t)
def oLit (v : AVal) (_ : List AVal) (_ : Env) (k : AVal → Bool) : Bool := k v
noncomputable def opd (x : Opd) : List AVal → Env → (AVal → Bool) → Bool :=
  Opd.rec (motive := fun _ => List AVal → Env → (AVal → Bool) → Bool) oLoc oSlot oLit x

noncomputable def opds (as : List Opd) (L : List AVal) (env : Env) (k : List AVal → Bool) : Bool :=
  List.rec (motive := fun _ => (List AVal → Bool) → Bool) (fun k => k [])
    (fun x _ ih k => opd x L env (fun v => ih (fun l => k (v :: l)))) as k

abbrev IK := List AVal → Env → AHeap → Bool
noncomputable def nAct (L : List AVal) (env : Env) (H : AHeap) (kn : IK) (r : Act) : Bool :=
  match r with
  | .bad => false
  | .val v => kn (v :: L) env H
  | .rd f => (match f H with | some v => kn (v :: L) env H | none => false)
  | .new v ob => kn (v H.next :: L) env (H.newObj (ob H.next))
  | .eff f => (match f H with | some (v, H') => kn (v :: L) env H' | none => false)
noncomputable def nOp (o : K) (as : List Opd) (L : List AVal) (env : Env) (H : AHeap) (kn : IK) : Bool :=
  opds as L env (fun vs => nAct L env H kn (actK o vs))
noncomputable def nCall (call : CallT) (kp : AVal → EK) (as : List Opd) (L : List AVal) (env : Env) (H : AHeap) (kn : IK) : Bool :=
  opds as L env (fun vs => match vs with
    | .fn f first cap :: vs => call f (first ++ vs ++ cap) H (fun v H => kn (v :: L) env H) (fun v H => kp v env H)
    | _ => false)
noncomputable def nCallF (call : CallT) (kp : AVal → EK) (f : FuncId) (as : List Opd) (L : List AVal) (env : Env) (H : AHeap) (kn : IK) : Bool :=
  opds as L env (fun vs => call f vs H (fun v H => kn (v :: L) env H) (fun v H => kp v env H))
noncomputable def nDefer (g : FuncId) (as : List Opd) (L : List AVal) (env : Env) (H : AHeap) (kn : IK) : Bool :=
  opds as L env (fun vs => match vs with
    | .fn g' _ _ :: _ => bif Nat.beq g g' then kn (.tup [] :: L) env H else false
    | _ => false)
def nRecov (rc : AVal) (L : List AVal) (env : Env) (H : AHeap) (kn : IK) : Bool := kn (rc :: L) env H
noncomputable def nPanic (kp : AVal → EK) (a : Opd) (L : List AVal) (env : Env) (H : AHeap) (_ : IK) : Bool :=
  opd a L env (fun v => match v with | .iface t v => kp (.iface t v) env H | _ => false)
noncomputable def nKeep (t : Nat) (L : List AVal) (env : Env) (H : AHeap) (kn : IK) : Bool :=
  match L with | v :: _ => kn L (env.set t v) H | [] => false
noncomputable def nAsg (t : Nat) (a : Opd) (L : List AVal) (env : Env) (H : AHeap) (kn : IK) : Bool :=
  opd a L env (fun v => kn L (env.set t v) H)
noncomputable def nGd (g : Opd) (want : Bool) (_ : Ins) (ih : List AVal → Env → AHeap → IK → Bool) (L : List AVal) (env : Env) (H : AHeap) (kn : IK) : Bool :=
  opd g L env (fun v => match v with
    | .bool b => bif eqBool b want then ih L env H kn else kn (.tup [] :: L) env H
    | .tup _ => kn (.tup [] :: L) env H
    | _ => false)
noncomputable def nChk (o : K) (as : List Opd) (j : Nat) (L : List AVal) (env : Env) (H : AHeap) (kn : IK) : Bool :=
  opds as L env (fun vs => oLoc j L env (fun u => match actK o vs with
    | .rd f => (match f H with | some v => bif veq 100 v u then kn L env H else false | none => false)
    | .val v => bif veq 100 v u then kn L env H else false
    | _ => false))
noncomputable def nUnd (j : Nat) (L : List AVal) (env : Env) (H : AHeap) (kn : IK) : Bool :=
  oLoc j L env (fun u => match u with | .tup [] => kn L env H | _ => false)
noncomputable def nGchk (g : Opd) (want : Bool) (o : K) (as : List Opd) (j : Nat) (L : List AVal) (env : Env) (H : AHeap) (kn : IK) : Bool :=
  opd g L env (fun v => match v with
    | .bool b => bif eqBool b want then nChk o as j L env H kn else nUnd j L env H kn
    | .tup _ => nUnd j L env H kn
    | _ => false)

def distinctFrom (k : AVal) : List (AVal × AVal × Nat) → Bool
  | [] => true
  | (k', _, _) :: es => (match keq k k' with | some false => true | _ => false) && distinctFrom k es
def distinct : List (AVal × AVal × Nat) → Bool
  | [] => true
  | (k, _, _) :: es => distinctFrom k es && distinct es
/-- a literal of a map, its entries in any order: the map's two names are written -/
noncomputable def nMlit (_ : EqK) (es : List (AVal × AVal × Nat)) (_ : List (K × List AVal)) (_ d2 : Nat) (L : List AVal) (env : Env) (H : AHeap) (kn : IK) : Bool :=
  bif distinct es then kn L (env.set d2 (.map H.next)) (H.newObj (.map es 0 true)) else false

/-- an instruction: the continuation gets the new results, the frame and the heap -/
noncomputable def insK (call : CallT) (rc : AVal) (kp : AVal → EK) (i : Ins) : List AVal → Env → AHeap → IK → Bool :=
  Ins.rec (motive := fun _ => List AVal → Env → AHeap → IK → Bool)
    nOp (nCall call kp) (nCallF call kp) nDefer (nRecov rc) (nPanic kp) nKeep nAsg nGd nChk nGchk nMlit i

noncomputable def runIns (call : CallT) (rc : AVal) (kp : AVal → EK) (l : List Ins) : List AVal → Env → AHeap → EK → Bool :=
  List.rec (motive := fun _ => List AVal → Env → AHeap → EK → Bool)
    (fun _ env H kn => kn env H)
    (fun i _ ih L env H kn => insK call rc kp i L env H (fun L env H => ih L env H kn)) l

noncomputable def cSkip (env : Env) (H : AHeap) (kn : EK) (_ : KS) : Bool := kn env H
noncomputable def cSeq (_ _ : Cd) (iha ihb : Env → AHeap → EK → KS → Bool) (env : Env) (H : AHeap) (kn : EK) (ks : KS) : Bool :=
  iha env H (fun env H => ihb env H kn ks) ks
noncomputable def cCond (o : Opd) (_ _ : Cd) (iha ihb : Env → AHeap → EK → KS → Bool) (env : Env) (H : AHeap) (kn : EK) (ks : KS) : Bool :=
  opd o [] env (fun v => match v with | .bool b => Bool.rec (ihb env H kn ks) (iha env H kn ks) b | _ => false)
noncomputable def cBlock (id : Nat) (_ : Cd) (ih : Env → AHeap → EK → KS → Bool) (env : Env) (H : AHeap) (kn : EK) (ks : KS) : Bool :=
  ih env H kn ⟨fun id' env H => bif Nat.beq id' id then kn env H else ks.kx id' env H, ks.kr, ks.kp⟩
noncomputable def cLoop (fuel : Nat) (_ : Cd) (ih : Env → AHeap → EK → KS → Bool) (env : Env) (H : AHeap) (_ : EK) (ks : KS) : Bool :=
  Nat.rec (motive := fun _ => EK) (fun _ _ => false) (fun _ self env H => ih env H self ks) fuel env H
noncomputable def cExit (id : Nat) (env : Env) (H : AHeap) (_ : EK) (ks : KS) : Bool := ks.kx id env H
noncomputable def cRet (env : Env) (H : AHeap) (_ : EK) (ks : KS) : Bool := ks.kr env H
noncomputable def cReg (call : CallT) (rc : AVal) (l : List Ins) (env : Env) (H : AHeap) (kn : EK) (ks : KS) : Bool := runIns call rc ks.kp l [] env H kn
noncomputable def cDreg (call : CallT) (rc : AVal) (_ : List Nat) (l : List Ins) (env : Env) (H : AHeap) (kn : EK) (ks : KS) : Bool := runIns call rc ks.kp l [] env H kn
noncomputable def evC (call : CallT) (rc : AVal) (fuel : Nat) (c : Cd) : Env → AHeap → EK → KS → Bool :=
  Cd.rec (motive := fun _ => Env → AHeap → EK → KS → Bool) cSkip cSeq cCond cBlock (cLoop fuel) cExit cRet (cReg call rc) (cDreg call rc) c

noncomputable def bindArgs (i : Nat) (l : List AVal) (env : Env) : Env :=
  List.rec (motive := fun _ => Nat → Env → Env) (fun _ env => env) (fun v _ ih i env => ih (Nat.succ i) (env.set i v)) l i env

noncomputable def resA (env : Env) (H : AHeap) (l : List RV) : Option (List AVal) :=
  List.rec (motive := fun _ => Option (List AVal)) (some [])
    (fun r _ ih => match (match r with
      | .tmp t => env.get t
      | .cell1 t => (match env.get t with | some (.ptr i o) => H.cell i o | _ => none)
      | .cellN t n => (match env.get t with | some (.ptr i o) => (match H.cellsAt i o n with | some cs => some (.agg cs) | none => none) | _ => none)), ih with
      | some v, some l => some (v :: l)
      | _, _ => none) l

def tupA : List AVal → AVal
  | [v] => v
  | l => .tup l

noncomputable def finish (fn : Fn) (k : Cont) : EK := fun env H => match resA env H fn.res with | some l => k (tupA l) H | none => false

noncomputable def callK (tab : Nat → Option Fn) (n : Nat) : CallT :=
  Nat.rec (motive := fun _ => CallT) (fun _ _ _ _ _ => false)
    (fun n ih f args H k kp => match tab f with
      | some fn => bif Nat.ble args.length fn.np then evC ih .niliface n fn.body (bindArgs 0 args .nil) H (finish fn k) ⟨fun _ _ _ => false, finish fn k, fun v _ H => kp v H⟩
        else false
      | none => false) n

end Go.Am
