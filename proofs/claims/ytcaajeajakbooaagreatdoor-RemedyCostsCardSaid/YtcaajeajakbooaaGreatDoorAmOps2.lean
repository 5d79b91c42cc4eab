/-
  Single operations of the abstract machine are those of the model, part 2.
-/
import Derived.Test.YtcaajeajakbooaaGreatDoorAmOps1
import Derived.Laws.Strings
import Derived.Laws.Strings2
set_option linter.unusedVariables false
set_option linter.unusedSimpArgs false
namespace Go.Am
open Go

section
variable {esz : TypeId → Nat} {φ : Phi} {P : Program} {w : World} {ρ : Operand → Value} {o : Oper}

/-! ### arithmetic -/
theorem wrap_small {k : IntKind} {n : Int} (hs : k.signed = true) (h0 : 0 ≤ n) (h : n < 2 ^ (k.bits - 1)) : k.wrap n = n := by
  unfold IntKind.wrap
  cases k <;> simp [IntKind.bits, IntKind.signed] at hs h ⊢ <;> omega
theorem awrap_eq (k : IntKind) (n : Int) : awrap k n = k.wrap n := by
  unfold awrap
  split
  · rename_i m
    by_cases h : Nat.blt m 9223372036854775808 = true
    · rw [bif_true h]; rw [bltN] at h
      have e : (Int.ofNat m : Int) = (m : Int) := rfl
      rw [wrap_small rfl (by omega) (by simp [IntKind.bits]; omega)]
    · rw [bif_false (bool_false h)]
  · rename_i m; show ((m % 256 : Nat) : Int) = _; simp [IntKind.wrap, IntKind.bits, IntKind.signed]
  · rename_i m
    by_cases h : Nat.blt m 2147483648 = true
    · rw [bif_true h]; rw [bltN] at h
      have e : (Int.ofNat m : Int) = (m : Int) := rfl
      rw [wrap_small rfl (by omega) (by simp [IntKind.bits]; omega)]
    · rw [bif_false (bool_false h)]
  · rename_i m; show ((m % 18446744073709551616 : Nat) : Int) = _; simp [IntKind.wrap, IntKind.bits, IntKind.signed]
  · rename_i m; show ((m % 4294967296 : Nat) : Int) = _; simp [IntKind.wrap, IntKind.bits, IntKind.signed]
  · rename_i m; show ((m % 65536 : Nat) : Int) = _; simp [IntKind.wrap, IntKind.bits, IntKind.signed]
  · rfl

theorem land_wrap16 (a b : Nat) : awrap .u16 (Int.ofNat (Nat.land a b)) = IntKind.u16.wrap ((BitVec.ofInt 16 (Int.ofNat a) &&& BitVec.ofInt 16 (Int.ofNat b)).toNat : Int) := by
  rw [awrap_eq]
  have h : (BitVec.ofInt 16 (Int.ofNat a) &&& BitVec.ofInt 16 (Int.ofNat b)).toNat = (a &&& b) % 65536 := by
    rw [show BitVec.ofInt 16 (Int.ofNat a) = BitVec.ofNat 16 a from rfl, show BitVec.ofInt 16 (Int.ofNat b) = BitVec.ofNat 16 b from rfl, ← BitVec.ofNat_and, BitVec.toNat_ofNat]
  rw [h]
  simp only [IntKind.wrap, IntKind.bits, IntKind.signed]
  simp
  first | done | rfl
theorem land_wrap8 (a b : Nat) : awrap .u8 (Int.ofNat (Nat.land a b)) = IntKind.u8.wrap ((BitVec.ofInt 8 (Int.ofNat a) &&& BitVec.ofInt 8 (Int.ofNat b)).toNat : Int) := by
  rw [awrap_eq]
  have h : (BitVec.ofInt 8 (Int.ofNat a) &&& BitVec.ofInt 8 (Int.ofNat b)).toNat = (a &&& b) % 256 := by
    rw [show BitVec.ofInt 8 (Int.ofNat a) = BitVec.ofNat 8 a from rfl, show BitVec.ofInt 8 (Int.ofNat b) = BitVec.ofNat 8 b from rfl, ← BitVec.ofNat_and, BitVec.toNat_ofNat]
  rw [h]
  simp only [IntKind.wrap, IntKind.bits, IntKind.signed]
  simp
  first | done | rfl

theorem intBin_run {op : BinOp} {k k' : IntKind} {a b : Int} {t : TypeId} {v : AVal} (hk : (isShift op || eqKind k k') = true) (h : intBin op k a b = some v) (w : World) :
    ∃ v', (binOp op t (.int k a) (.int k' b)).run P w = .ok v' w ∧ VRel esz φ v v' := by
  cases op <;> simp only [isShift, Bool.false_or, Bool.true_or, eqKind_iff] at hk
  case add => subst hk; cases h; exact ⟨_, by simp [binOp, Op.intArith]; rfl, by rw [awrap_eq]; exact .int _ _⟩
  case sub => subst hk; cases h; exact ⟨_, by simp [binOp, Op.intArith]; rfl, by rw [awrap_eq]; exact .int _ _⟩
  case mul => subst hk; cases h; exact ⟨_, by simp [binOp, Op.intArith]; rfl, by rw [awrap_eq]; exact .int _ _⟩
  case quo =>
    subst hk
    have h' : (bif eqInt b 0 then none else some (AVal.int k (awrap k (a.tdiv b)))) = some v := h
    by_cases hb : eqInt b 0 = true
    · rw [bif_true hb] at h'; cases h'
    · rw [bif_false (bool_false hb)] at h'; cases h'
      have : b ≠ 0 := fun e => hb (eqInt_iff.2 e)
      exact ⟨.int k (k.wrap (a.tdiv b)), by simp [binOp, Op.intDiv, this], by rw [awrap_eq]; exact .int _ _⟩
  case rem =>
    subst hk
    have h' : (bif eqInt b 0 then none else some (AVal.int k (a.tmod b))) = some v := h
    by_cases hb : eqInt b 0 = true
    · rw [bif_true hb] at h'; cases h'
    · rw [bif_false (bool_false hb)] at h'; cases h'
      have : b ≠ 0 := fun e => hb (eqInt_iff.2 e)
      exact ⟨.int k (a.tmod b), by simp [binOp, Op.intDiv, this], .int _ _⟩
  case and =>
    subst hk
    have h' : iAnd k a b = some v := h
    refine ⟨.int k (k.wrap (BitVec.ofInt k.bits a &&& BitVec.ofInt k.bits b).toNat), by simp [binOp, Op.intBits], ?_⟩
    unfold iAnd at h'
    split at h'
    · cases h'; rw [land_wrap16]; exact .int _ _
    · cases h'; rw [land_wrap8]; exact .int _ _
    · cases h'; exact .int _ _
  case or => subst hk; cases h; exact ⟨.int k (k.wrap (BitVec.ofInt k.bits a ||| BitVec.ofInt k.bits b).toNat), by simp [binOp, Op.intBits], .int _ _⟩
  case xor => subst hk; cases h; exact ⟨.int k (k.wrap (BitVec.ofInt k.bits a ^^^ BitVec.ofInt k.bits b).toNat), by simp [binOp, Op.intBits], .int _ _⟩
  case andNot => subst hk; cases h; exact ⟨.int k (k.wrap (BitVec.ofInt k.bits a &&& ~~~ BitVec.ofInt k.bits b).toNat), by simp [binOp, Op.intBits], .int _ _⟩
  case eql => subst hk; cases h; exact ⟨.bool (a == b), by simp [binOp, Op.intCmp], by rw [show eqInt a b = (a == b) by rw [Bool.eq_iff_iff, eqInt_iff]; simp]; exact .bool _⟩
  case neq => subst hk; cases h; exact ⟨.bool (a != b), by simp [binOp, Op.intCmp], by rw [show (!eqInt a b) = (a != b) by rw [bne, show eqInt a b = (a == b) by rw [Bool.eq_iff_iff, eqInt_iff]; simp]]; exact .bool _⟩
  case lss => subst hk; cases h; exact ⟨.bool (a < b), by simp [binOp, Op.intCmp], by rw [show (!leInt b a) = decide (a < b) by rw [Bool.eq_iff_iff]; simp [← Bool.not_eq_true, leInt_iff]]; exact .bool _⟩
  case leq => subst hk; cases h; exact ⟨.bool (a ≤ b), by simp [binOp, Op.intCmp], by rw [show leInt a b = decide (a ≤ b) by rw [Bool.eq_iff_iff, leInt_iff]; simp]; exact .bool _⟩
  case gtr => subst hk; cases h; exact ⟨.bool (a > b), by simp [binOp, Op.intCmp], by rw [show (!leInt a b) = decide (b < a) by rw [Bool.eq_iff_iff]; simp [← Bool.not_eq_true, leInt_iff]]; exact .bool _⟩
  case geq => subst hk; cases h; exact ⟨.bool (a ≥ b), by simp [binOp, Op.intCmp], by rw [show leInt b a = decide (b ≤ a) by rw [Bool.eq_iff_iff, leInt_iff]; simp]; exact .bool _⟩
  case shl =>
    have h' : iShl k a b = some v := h
    unfold iShl at h'
    split at h'
    · rename_i b; cases h'
      refine ⟨.int k (k.wrap (a * 2 ^ (min b k.bits))), ?_, by rw [awrap_eq]; exact .int _ _⟩
      have : ¬ ((b : Int) < 0) := by omega
      simp [binOp, Op.shift, this]
    · cases h'
  case shr =>
    have h' : iShr k a b = some v := h
    unfold iShr at h'
    split at h'
    · rename_i b; cases h'
      refine ⟨.int k (a.fdiv (2 ^ (min b k.bits))), ?_, .int _ _⟩
      have : ¬ ((b : Int) < 0) := by omega
      simp [binOp, Op.shift, this]
    · cases h'

theorem map_toNat_inj : ∀ (a b : List UInt8), a.map UInt8.toNat = b.map UInt8.toNat → a = b
  | [], [], _ => rfl
  | [], _ :: _, h => by simp at h
  | _ :: _, [], h => by simp at h
  | x :: a, y :: b, h => by
    simp only [List.map_cons, List.cons.injEq] at h
    rw [UInt8.toNat_inj.1 h.1, map_toNat_inj a b h.2]
theorem bytes_ext {a b : ByteArray} (h : a.data.toList = b.data.toList) : a = b := by
  cases a; cases b; simp only at h; congr 1; exact Array.toList_inj.1 h
theorem ofBytes_inj {a b : ByteArray} : ofBytes a = ofBytes b ↔ a = b := by
  constructor
  · intro h; exact bytes_ext (map_toNat_inj _ _ h)
  · intro h; rw [h]
theorem toList_data (a : ByteArray) : a.toList = a.data.toList := ByteArray.toList_eq a
theorem less_eq : ∀ (x y : List UInt8), Go.Op.bytesLess x y = bytesLessN (x.map UInt8.toNat) (y.map UInt8.toNat)
  | [], [] => rfl
  | _ :: _, [] => rfl
  | [], _ :: _ => rfl
  | a :: x, b :: y => by
    simp only [Go.Op.bytesLess, List.map_cons, bytesLessN, less_eq x y]
    congr 1
    · rw [Bool.eq_iff_iff]; simp [UInt8.lt_iff_toNat_lt, Nat.blt]; omega
    · congr 1
      rw [Bool.eq_iff_iff]; simp [← UInt8.toNat_inj]
theorem bytesLess_eq (a b : ByteArray) : Go.Op.bytesLess a.toList b.toList = bytesLessN (ofBytes a) (ofBytes b) := by
  rw [toList_data, toList_data, less_eq]; rfl
theorem eqBytes (a b : ByteArray) : (a.toList == b.toList) = eqStr (ofBytes a) (ofBytes b) := by
  rw [toList_data, toList_data, Bool.eq_iff_iff, eqStr_iff, ofBytes_inj, beq_iff_eq]
  exact ⟨bytes_ext, fun h => by rw [h]⟩
theorem ofBytes_append (a b : ByteArray) : ofBytes (a ++ b) = ofBytes a ++ ofBytes b := by
  simp [ofBytes, ByteArray.data_append]

theorem strBin_run {op : BinOp} {a b : ByteArray} {t : TypeId} {v : AVal} (h : strBin op (ofBytes a) (ofBytes b) = some v) (w : World) :
    ∃ v', (binOp op t (.string a) (.string b)).run P w = .ok v' w ∧ VRel esz φ v v' := by
  cases op <;> simp only [strBin] at h <;> first | (cases h; done) | skip
  case add =>
    by_cases hb : Nat.ble (Nat.add (ofBytes a).length (ofBytes b).length) 9223372036854775807 = true
    · rw [bif_true hb] at h; cases h
      rw [bleN] at hb
      simp only [ofBytes_length, Nat.add_eq] at hb
      refine ⟨.string (a ++ b), ?_, by rw [← ofBytes_append]; exact .str _⟩
      have : ¬ (((a.size + b.size : Nat) : Int) > IntKind.i64.max) := by simp [IntKind.max, IntKind.signed, IntKind.bits]; omega
      simp only [binOp, Op.stringOp]
      rw [if_neg this]; rfl
    · rw [bif_false (bool_false hb)] at h; cases h
  case eql => cases h; exact ⟨_, by simp only [binOp, Op.stringOp, Sem.run_pure]; rfl, by rw [eqBytes]; exact .bool _⟩
  case neq => cases h; exact ⟨_, by simp only [binOp, Op.stringOp, Sem.run_pure]; rfl, by rw [eqBytes]; exact .bool _⟩
  case lss => cases h; exact ⟨_, by simp only [binOp, Op.stringOp, Sem.run_pure]; rfl, by rw [bytesLess_eq]; exact .bool _⟩
  case leq => cases h; exact ⟨_, by simp only [binOp, Op.stringOp, Sem.run_pure]; rfl, by rw [bytesLess_eq, eqBytes]; exact .bool _⟩
  case gtr => cases h; exact ⟨_, by simp only [binOp, Op.stringOp, Sem.run_pure]; rfl, by rw [bytesLess_eq, eqBytes]; exact .bool _⟩
  case geq => cases h; exact ⟨_, by simp only [binOp, Op.stringOp, Sem.run_pure]; rfl, by rw [bytesLess_eq]; exact .bool _⟩
end
end Go.Am
