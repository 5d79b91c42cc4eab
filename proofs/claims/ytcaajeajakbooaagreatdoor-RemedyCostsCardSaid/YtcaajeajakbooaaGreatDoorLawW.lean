/-
  The law returns true at every slice of remedies and every byte.
-/
import Derived.Test.YtcaajeajakbooaaGreatDoorLoops
import Derived.Test.YtcaajeajakbooaaGreatDoorRegA
set_option linter.unusedVariables false
set_option linter.unusedSimpArgs false
namespace Go.Proofs.YtcaajeajakbooaaGreatDoor
open Go.RowKit Go.Am

theorem sumB_split (f : Nat → Int) (k : Nat) : ∀ m, sumB f (k + m) = sumB f k + sumB (fun j => f (k + j)) m
  | 0 => by simp [sumB]
  | m + 1 => by
    rw [show k + (m + 1) = k + m + 1 from rfl]
    simp only [sumB]
    rw [sumB_split f k m]
    omega

theorem RowR.keep {w w' : World} {b off n : Nat} {op : Nat → Int} {txt : Nat → ByteArray} {pa : Nat → Option Addr} {pl pc : Nat → Nat} {cc : Nat → Int} (h : RowR w b off n op txt pa pl pc cc) (hb : w'.heap[b]? = w.heap[b]?) : RowR w' b off n op txt pa pl pc cc :=
  ⟨fun k hk => (World.cell?_of_block (w := w) hb).trans (h.c0 k hk), fun k hk => (World.cell?_of_block (w := w) hb).trans (h.c1 k hk), fun k hk => (World.cell?_of_block (w := w) hb).trans (h.c2 k hk), fun k hk => (World.cell?_of_block (w := w) hb).trans (h.c3 k hk)⟩
theorem RowR.first {w : World} {b off n m : Nat} {op : Nat → Int} {txt : Nat → ByteArray} {pa : Nat → Option Addr} {pl pc : Nat → Nat} {cc : Nat → Int} (h : RowR w b off n op txt pa pl pc cc) (hm : m ≤ n) : RowR w b off m op txt pa pl pc cc :=
  ⟨fun k hk => h.c0 k (by omega), fun k hk => h.c1 k (by omega), fun k hk => h.c2 k (by omega), fun k hk => h.c3 k (by omega)⟩
theorem RowR.rest {w : World} {b off n k : Nat} {op : Nat → Int} {txt : Nat → ByteArray} {pa : Nat → Option Addr} {pl pc : Nat → Nat} {cc : Nat → Int} (h : RowR w b off n op txt pa pl pc cc) (hk : k ≤ n) :
    RowR w b (off + k * 4) (n - k) (fun j => op (k + j)) (fun j => txt (k + j)) (fun j => pa (k + j)) (fun j => pl (k + j)) (fun j => pc (k + j)) (fun j => cc (k + j)) where
  c0 := fun j hj => by have := h.c0 (k + j) (by omega); rwa [show off + (k + j) * 4 = off + k * 4 + j * 4 by omega] at this
  c1 := fun j hj => by have := h.c1 (k + j) (by omega); rwa [show off + (k + j) * 4 + 1 = off + k * 4 + j * 4 + 1 by omega] at this
  c2 := fun j hj => by have := h.c2 (k + j) (by omega); rwa [show off + (k + j) * 4 + 2 = off + k * 4 + j * 4 + 2 by omega] at this
  c3 := fun j hj => by have := h.c3 (k + j) (by omega); rwa [show off + (k + j) * 4 + 3 = off + k * 4 + j * 4 + 3 by omega] at this

def phi1 (b off : Nat) : Phi := fun i => if i = 1 then some ⟨b, off, 0, 0⟩ else none
theorem sim1 {esz : TypeId → Nat} {b off : Nat} {heap : Array Obj} (hb : b < heap.size) : Sim esz (phi1 b off) (fun g => gl0 g = true) ⟨20, .nil, .nil⟩ heap := by
  have no : ∀ i, (⟨20, .nil, .nil⟩ : AHeap).objs.get i = none := fun i => Trie.get_nil i
  refine ⟨fun i o p h => ?_, fun i j oi oj pi pj h => ?_, fun i cs e g v p cs' e' v' q h => ?_, fun i cs e g v h => ?_, fun i cs e g v h => ?_, fun i cs e g v h => ?_, fun i p h => ?_, fun i p h => ?_, fun i cs e g v p h => ?_, fun i cs e g v p h => ?_, fun i _ => ⟨Trie.get_nil i, Trie.get_nil i⟩, fun g h => by cases h⟩
  case refine_7 => unfold phi1 at h; split at h <;> cases h; exact hb
  case refine_8 => unfold phi1 at h; split at h <;> cases h; rename_i e; subst e; decide
  all_goals (rw [no] at h; cases h)
theorem slk {n cap k : Nat} (hk : k ≤ n) (hc : n ≤ cap) : actK (.slE 4 false true false) [.sl 1 0 n cap 0, .int .i64 (.ofNat k)] = .val (.sl 1 0 k cap 0) := by
  have h : (Nat.ble cap cap && (Nat.ble 0 k && Nat.ble k cap)) = true := by simp; omega
  show (bif (true && (Nat.ble cap cap && (Nat.ble 0 k && Nat.ble k cap))) then Am.Act.val (slRes 1 0 4 0 k cap 0) else .bad) = _
  rw [Bool.true_and, bif_true h]
  unfold slRes
  cases (Nat.beq cap 0 && Nat.beq 0 0) <;> rfl
theorem slr {n cap k : Nat} (hk : k ≤ n) (hc : n ≤ cap) : actK (.slE 4 true false false) [.sl 1 0 n cap 0, .int .i64 (.ofNat k)] = .val (slRes 1 0 4 k n cap 0) := by
  have h : (Nat.ble cap cap && (Nat.ble k n && Nat.ble n cap)) = true := by simp; omega
  show (bif (true && (Nat.ble cap cap && (Nat.ble k n && Nat.ble n cap))) then Am.Act.val (slRes 1 0 4 k n cap 0) else .bad) = _
  rw [Bool.true_and, bif_true h]
theorem slRes_cases {n cap k : Nat} (hk : k ≤ n) (hc : n ≤ cap) : (cap = k ∧ n = k ∧ slRes 1 0 4 k n cap 0 = .sl 1 0 0 0 0) ∨ slRes 1 0 4 k n cap 0 = .sl 1 (k * 4) (n - k) (cap - k) 0 := by
  unfold slRes
  by_cases h : cap = k
  · left
    have : n = k := by omega
    subst h; subst this
    refine ⟨rfl, rfl, ?_⟩
    rw [bif_true (by simp)]
    simp
  · right
    rw [bif_false (by rw [Bool.and_eq_false_iff]; left; exact bool_false (by rw [beqN]; exact h))]
    simp
theorem sl_inv {esz : TypeId → Nat} {φ : Phi} {b off o n c : Nat} {u : Value} (he : Ext (phi1 b off) φ) (h : VRel esz φ (.sl 1 o n c 0) u) : u = .slice (some ⟨b, off + o, none⟩) n c := by
  have h1 : φ 1 = some ⟨b, off, 0, 0⟩ := he 1 _ (by simp [phi1])
  cases h with
  | slx _ _ _ hp => rw [h1] at hp; cases hp; rfl
  | sli _ _ _ _ hp h0 => exact absurd rfl h0
  | sle _ hp h0 => exact absurd rfl h0

theorem law_end {a' : Go.Act} {w' : World} {R : Ending → World → Prop} (h4 : a'.eval (.tmp 4) = .bool true) (hd : a'.defers = []) (hR : R (.returned (.bool true)) w') : bodyPost Tryz.prog Tryz.f3 R .ret a' w' := by
  refine ⟨hd, .bool true, ?_, hR⟩
  have hr : Tryz.f3.results = #[.tmp 4] := by kernel_rfl
  have h4' : a'.tmps.getD 4 undef = .bool true := h4
  rw [Array.getD_eq_getD_getElem?] at h4'
  simp [results, hr, h4']

set_option maxHeartbeats 1000000 in
theorem law_row (b off n cap : Nat) (op : Nat → Int) (txt : Nat → ByteArray) (pa : Nat → Option Addr) (pl pc : Nat → Nat) (cc : Nat → Int) (at_ : Int) (w : World) (hr : RowR w b off n op txt pa pl pc cc) (hb : b < w.heap.size) (hcap : n ≤ cap)
    (hn : n ≤ 9223372036854775807) (h0 : 0 ≤ at_) (h1 : at_ < 256) :
    Calls Tryz.prog 3 #[.slice (some ⟨b, off, none⟩) n cap, .int .u8 at_] w fun e w' => e = .returned (.bool true) ∧ Below w.heap.size w w' := by
  go_enter Tryz.func3, Tryz.ntmps3
  go_wp2_with fail
  go_at_call 4
  refine (Go.Am.awake_calls _).mono fun e w1 ⟨he, hb1⟩ => ?_
  subst he
  go_wp2
  · go_ret
    exact ⟨rfl, hb1⟩
  · rename_i hle K hK
    have hn40 : n ≤ 40 := by omega
    have hkk : at_ % ((n : Int) + 1) = Int.ofNat (at_ % ((n : Int) + 1)).toNat := (Int.toNat_of_nonneg (Int.emod_nonneg _ (by omega))).symm
    have hkn : (at_ % ((n : Int) + 1)).toNat ≤ n := by
      have := Int.emod_lt_of_pos at_ (show (0 : Int) < (n : Int) + 1 by omega)
      omega
    generalize (at_ % ((n : Int) + 1)).toNat = k at hkk hkn
    have hb' : b < w1.heap.size := Nat.lt_of_lt_of_le hb hb1.size
    have hr1 : RowR w1 b off n op txt pa pl pc cc := hr.keep (hb1.block b hb)
    have hf := fun k => priceB_le (op k) (txt k).toList
    have hsum := sumB_split (fun k => priceB (op k) (txt k).toList) k (n - k)
    rw [show k + (n - k) = n by omega] at hsum
    have hX := sumB_le (fun k => priceB (op k) (txt k).toList) hf n
    refine Go.Am.reg6 (A := .sl 1 0 n cap 0) (Ak := .sl 1 0 k cap 0) (Ar := slRes 1 0 4 k n cap 0) (X := sumB (fun k => priceB (op k) (txt k).toList) n) (Xk := sumB (fun k => priceB (op k) (txt k).toList) k) (Xr := sumB (fun j => priceB (op (k + j)) (txt (k + j)).toList) (n - k)) (k := k) (φ := phi1 b off)
      (by kernel_rfl) Go.Am.mixed (slk hkn hcap) (slr hkn hcap) ?_ ?_ ?_ ?_ (sim1 hb') ?_ ?_ ?_ rfl ?_ ?_
    · rw [awrap_eq, show Int.add (sumB (fun k => priceB (op k) (txt k).toList) k) (sumB (fun j => priceB (op (k + j)) (txt (k + j)).toList) (n - k)) = sumB (fun k => priceB (op k) (txt k).toList) n from hsum.symm]
      exact Go.Am.wrap_small rfl hX.1 (by simp [IntKind.bits]; omega)
    · intro h; cases h; rfl
    · intro h
      rcases slRes_cases hkn hcap with ⟨e1, e2, e3⟩ | e3
      · rw [e3] at h; injection h with _ _ h3
        have : n = 0 := h3
        subst this
        have : k = 0 := by omega
        subst this
        rfl
      · rw [e3] at h; injection h with _ h2
        have : k = 0 := by omega
        subst this
        simp
    · intro h
      rcases slRes_cases hkn hcap with ⟨e1, e2, e3⟩ | e3
      · rw [e3] at h; injection h with _ _ h3
        have h3' : k = 0 := h3
        have : n = 0 := by omega
        subst this; subst h3'
        rfl
      · rw [e3] at h; injection h with _ h2 h3
        have h2' : k = 0 := by omega
        subst h2'
        have : n = 0 := by omega
        subst this
        rfl
    · exact .slx 0 n cap (p := ⟨b, off, 0, 0⟩) (by simp [phi1])
    · show Value.int .i64 (at_ % ((n : Int) + 1)) = _
      rw [hkk]
    · show 36 ≤ 36
      exact Nat.le_refl _
    · intro φ' w' hext hblk hsz
      have hb2 : b < w'.heap.size := Nat.lt_of_lt_of_le hb' hsz
      have hr2 : RowR w' b off n op txt pa pl pc cc := hr1.keep (hblk b hb')
      refine ⟨fun u hu => ?_, fun u hu => ?_, fun u hu => ?_, fun u hu => ?_⟩
      · rw [sl_inv hext hu]; exact cost_row b off n cap op txt pa pl pc cc w' hn40 hr2 hb2
      · rw [sl_inv hext hu]; exact refcost b off n cap op txt pa pl pc cc w' hn40 hr2 hb2
      · rw [sl_inv hext hu]; exact cost_row b off k cap op txt pa pl pc cc w' (by omega) (hr2.first hkn) hb2
      · rcases slRes_cases hkn hcap with ⟨e1, e2, e3⟩ | e3
        · rw [e3] at hu
          rw [sl_inv hext hu]
          have : n - k = 0 := by omega
          rw [this]
          exact cost_row b off 0 0 op txt pa pl pc cc w' (by omega) (hr2.first (Nat.zero_le _)) hb2
        · rw [e3] at hu
          rw [sl_inv hext hu]
          exact cost_row b (off + k * 4) (n - k) (cap - k) _ _ _ _ _ _ w' (by omega) (hr2.rest hkn) hb2
    · intro a' w' h4 hd hbel
      exact hK a' w' (wp_ret (law_end h4 hd ⟨rfl, hb1.trans (hbel.mono hb1.size)⟩))

set_option maxHeartbeats 1000000 in
theorem law_nil (at_ : Int) (w : World) (h0 : 0 ≤ at_) (h1 : at_ < 256) :
    Calls Tryz.prog 3 #[.slice none 0 0, .int .u8 at_] w fun e w' => e = .returned (.bool true) ∧ Below w.heap.size w w' := by
  go_enter Tryz.func3, Tryz.ntmps3
  go_wp2_with fail
  go_at_call 4
  refine (Go.Am.awake_calls _).mono fun e w1 ⟨he, hb1⟩ => ?_
  subst he
  go_wp2
  · rename_i K hK
    refine Go.Am.reg6 (A := .nilsl) (Ak := .nilsl) (Ar := .nilsl) (X := 0) (Xk := 0) (Xr := 0) (k := 0) (φ := fun _ => none)
      (by kernel_rfl) Go.Am.mixed rfl rfl rfl (fun _ => rfl) (fun _ => rfl) (fun _ => rfl) sim_empty ?_ ?_ ?_ rfl ?_ ?_
    · exact .nilsl
    · rfl
    · exact Nat.le_refl _
    · intro φ' w' hext hblk hsz
      refine ⟨fun u hu => ?_, fun u hu => ?_, fun u hu => ?_, fun u hu => ?_⟩ <;> cases hu
      · exact cost_nil w'
      · exact refcost_nil w'
      · exact cost_nil w'
      · exact cost_nil w'
    · intro a' w' h4 hd hbel
      exact hK a' w' (wp_ret (law_end h4 hd ⟨rfl, hb1.trans (hbel.mono hb1.size)⟩))
end Go.Proofs.YtcaajeajakbooaaGreatDoor
