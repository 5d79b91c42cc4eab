/-
  remedy.cost is the same plain function, for every operation and text.
-/
import Derived.Test.YtcaajeajakbooaaGreatDoorAwake
import Derived.Test.YtcaajeajakbooaaGreatDoorPrice
set_option linter.unusedVariables false
set_option linter.unusedSimpArgs false
namespace Go.Am
open Go Go.Proofs Go.RowKit Go.Proofs.YtcaajeajakbooaaGreatDoor

def tbl12 : List (Int × List Nat × Int) := [(6, [116, 101, 120, 116], 1), (6, [107, 101, 121], 1), (1, [115, 99, 97, 108, 97, 114], 2), (1, [116, 97, 103], 2), (1, [111, 109, 97, 112], 2), (1, [114, 111, 111, 116], 2), (1, [114, 111, 119, 115], 2),
  (2, [116, 114, 101, 101], 3), (2, [103, 114, 97, 112, 104], 3), (3, [115, 104, 97, 114, 105, 110, 103], 4), (4, [111, 114, 100, 101, 114], 5), (5, [100, 101, 99, 105, 109, 97, 108], 6)]
def es12 : List (Int × List Nat × Int) → Nat → List (AVal × AVal × Nat)
  | [], _ => []
  | (a, b, v) :: l, i => (.agg [.int .i64 a, .str b], .int .i64 v, i) :: es12 l (i + 1)
def val12 (op : Int) (s : List Nat) : List (Int × List Nat × Int) → Int
  | [] => 0
  | (a, b, v) :: l => if op = a ∧ s = b then v else val12 op s l
theorem find12 (op : Int) (s : List Nat) : ∀ (l : List (Int × List Nat × Int)) (i j : Nat), lookRes (.int .i64 0) false (afind (.agg [.int .i64 op, .str s]) (es12 l i) j) = some (.int .i64 (val12 op s l))
  | [], i, j => rfl
  | (a, b, v) :: l, i, j => by
    simp only [es12, afind, keq, keqL, val12]
    rw [show eqKind .i64 .i64 = true from rfl]
    simp only [cond_true]
    by_cases h1 : op = a
    · subst h1
      rw [bif_true (eqInt_iff.2 rfl)]
      by_cases h2 : s = b
      · subst h2
        rw [bif_true (eqStr_iff.2 rfl)]
        simp [lookRes]
      · rw [bif_false (bool_false (fun h => h2 (eqStr_iff.1 h)))]
        simp only [h2, and_false, if_false]
        exact find12 op s l (i + 1) (j + 1)
    · rw [bif_false (bool_false (fun h => h1 (eqInt_iff.1 h)))]
      simp only [h1, false_and, if_false]
      exact find12 op s l (i + 1) (j + 1)

set_option maxRecDepth 100000 in
theorem run12 (op : Int) (s : List Nat) (k : Cont) (kp : Cont) : callK tab 10 12 [.int .i64 op, .str s] H00 k kp =
    (match lookRes (.int .i64 0) false (afind (.agg [.int .i64 op, .str s]) (es12 tbl12 0) 0) with | some v => k v (H00.newObj (.map (es12 tbl12 0) 0 true)) | none => false) := by kernel_rfl
theorem str_eq (s : ByteArray) (l : List UInt8) : ofBytes s = l.map UInt8.toNat ↔ s.toList = l := by
  rw [toList_data]
  constructor
  · intro h; exact map_toNat_inj _ _ h
  · intro h; simp only [ofBytes, h]
theorem val_price (op : Int) (s : ByteArray) : val12 op (ofBytes s) tbl12 = priceB op s.toList := by
  have e : ∀ l : List UInt8, (ofBytes s = l.map UInt8.toNat) = (s.toList = l) := fun l => propext (str_eq s l)
  have e1 := e [116, 101, 120, 116]
  have e2 := e [107, 101, 121]
  have e3 := e [115, 99, 97, 108, 97, 114]
  have e4 := e [116, 97, 103]
  have e5 := e [111, 109, 97, 112]
  have e6 := e [114, 111, 111, 116]
  have e7 := e [114, 111, 119, 115]
  have e8 := e [116, 114, 101, 101]
  have e9 := e [103, 114, 97, 112, 104]
  have e10 := e [115, 104, 97, 114, 105, 110, 103]
  have e11 := e [111, 114, 100, 101, 114]
  have e12 := e [100, 101, 99, 105, 109, 97, 108]
  simp only [List.map_cons, List.map_nil] at e1 e2 e3 e4 e5 e6 e7 e8 e9 e10 e11 e12
  simp only [show UInt8.toNat 116 = 116 from rfl, show UInt8.toNat 101 = 101 from rfl, show UInt8.toNat 120 = 120 from rfl, show UInt8.toNat 107 = 107 from rfl, show UInt8.toNat 121 = 121 from rfl, show UInt8.toNat 115 = 115 from rfl, show UInt8.toNat 99 = 99 from rfl, show UInt8.toNat 97 = 97 from rfl,
    show UInt8.toNat 108 = 108 from rfl, show UInt8.toNat 114 = 114 from rfl, show UInt8.toNat 103 = 103 from rfl, show UInt8.toNat 111 = 111 from rfl, show UInt8.toNat 109 = 109 from rfl, show UInt8.toNat 112 = 112 from rfl, show UInt8.toNat 119 = 119 from rfl, show UInt8.toNat 104 = 104 from rfl, show UInt8.toNat 105 = 105 from rfl, show UInt8.toNat 110 = 110 from rfl, show UInt8.toNat 100 = 100 from rfl] at e1 e2 e3 e4 e5 e6 e7 e8 e9 e10 e11 e12
  simp only [val12, tbl12, e1, e2, e3, e4, e5, e6, e7, e8, e9, e10, e11, e12]
  unfold priceB
  by_cases h1 : op = 1 <;> by_cases h2 : op = 2 <;> by_cases h3 : op = 3 <;> by_cases h4 : op = 4 <;> by_cases h5 : op = 5 <;> by_cases h6 : op = 6 <;> simp [h1, h2, h3, h4, h5, h6] <;> (try omega)
  · by_cases a1 : s.toList = [115, 99, 97, 108, 97, 114] <;> by_cases a2 : s.toList = [116, 97, 103] <;> by_cases a3 : s.toList = [111, 109, 97, 112] <;> by_cases a4 : s.toList = [114, 111, 111, 116] <;> by_cases a5 : s.toList = [114, 111, 119, 115] <;> simp [a1, a2, a3, a4, a5]
  · by_cases a1 : s.toList = [116, 114, 101, 101] <;> by_cases a2 : s.toList = [103, 114, 97, 112, 104] <;> simp [a1, a2]
  · by_cases a1 : s.toList = [116, 101, 120, 116] <;> by_cases a2 : s.toList = [107, 101, 121] <;> simp [a1, a2]

theorem cost_calls (op : Int) (s : ByteArray) (w : World) : Calls Tryz.prog 12 #[.int .i64 op, .string s] w fun e w' => e = .returned (.int .i64 (priceB op s.toList)) ∧ Below w.heap.size w w' := by
  have h0 : callK tab 10 12 [.int .i64 op, .str (ofBytes s)] H00 (fun v _ => veq 5 v (.int .i64 (priceB op s.toList))) (fun _ _ => false) = true := by
    rw [run12, find12, val_price]
    simp [veq, eqKind, eqInt_iff.2 rfl]
  obtain ⟨_, h⟩ := call_ok 10 12 [.int .i64 op, .str (ofBytes s)] H00 _ _ (fun _ _ => rfl) h0
  refine (h (fun _ => none) 0 w #[.int .i64 op, .string s] (.cons (.int _ _) (.cons (.str s) .nil)) sim_empty (Nat.zero_le _)).mono ?_
  intro e w' he
  cases e with
  | returned v' =>
    obtain ⟨v, φ', H', h1, _, h3, h4⟩ := he
    refine ⟨?_, below_of h3⟩
    rw [veq_eq _ _ _ h4] at h1
    cases h1
    rfl
  | panicked c => exact he.elim
  | outgrown => exact he.elim
end Go.Am
