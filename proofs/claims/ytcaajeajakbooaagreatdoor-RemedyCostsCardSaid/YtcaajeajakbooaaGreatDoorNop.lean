/-
  The deferred call of canon.parse does nothing where nothing panics.
-/
import Derived.Test.YtcaajeajakbooaaGreatDoorAmCode
import Derived.Recover
import Derived.Test.YtcaajeajakbooaaGreatDoorProg
import Derived.KernelRfl
set_option linter.unusedVariables false
set_option linter.unusedSimpArgs false
namespace Go.Am
open Go Go.Proofs

theorem recoverD_ret {c : Frame} {cs : List Frame} (h : c.mode = .returning) : recoverD (c :: cs) = none := by simp [recoverD, h]

set_option maxRecDepth 100000 in
theorem nop170 : NopF Tryz.prog 170 := by
  refine ⟨⟨Tryz.f170, Tryz.func170, by kernel_rfl, by decide⟩, fun args w => ?_⟩
  refine callsD_of_wpS Tryz.func170 rfl fun c₀ cs hm => ?_
  have hsz : 17 ≤ (args ++ Array.replicate (Tryz.f170.ntmps - args.size) undef).size := by
    rw [Tryz.ntmps170]; simp; omega
  generalize (args ++ Array.replicate (Tryz.f170.ntmps - args.size) undef) = tm at hsz
  refine wpS_seq (wpS_region ?_)
  simp [wpOpsS, List.range, List.range.loop, Region.wanted, execOp, resolve, invoke, builtin, recoverD_ret hm]
  rw [Oper.upon_value]
  have h5 : (({ tmps := tm, defers := [] } : Go.Act).put (some 5) Value.nilIface).eval (.tmp 5) = .nilIface := put_self (by simp; omega)
  generalize ha1 : ({ tmps := tm, defers := [] } : Go.Act).put (some 5) Value.nilIface = a1 at *
  have hs1 : 17 ≤ a1.tmps.size := by rw [← ha1, put_size]; exact hsz
  have hd1 : a1.defers = [] := by rw [← ha1, put_defers]
  rw [h5]
  have h2 : (a1.put (some 2) Value.nilIface).eval (.tmp 2) = .nilIface := put_self (by omega)
  generalize ha2 : a1.put (some 2) Value.nilIface = a2 at *
  have hs2 : 17 ≤ a2.tmps.size := by rw [← ha2, put_size]; exact hs1
  have hd2 : a2.defers = [] := by rw [← ha2, put_defers]; exact hd1
  show Code.wpS _ _ _ a2 (c₀ :: cs) w
  refine wpS_of_wp (wp_seq (wp_region ?_))
  simp [wpOps, List.range, List.range.loop, Region.wanted, execOp, Oper.wp, h2]
  left
  rw [Oper.upon_value]
  have h6 : (a2.put (some 6) Value.nilIface).eval (.tmp 6) = .nilIface := put_self (by omega)
  generalize ha3 : a2.put (some 6) Value.nilIface = a3 at *
  have hs3 : 17 ≤ a3.tmps.size := by rw [← ha3, put_size]; exact hs2
  have hd3 : a3.defers = [] := by rw [← ha3, put_defers]; exact hd2
  left
  rw [h6]
  have he : (Op.equalIn Op.maxDepth 20 .nilIface .nilIface).run Tryz.prog w = .ok true w :=
    aeq_run (esz := fun _ => 0) (φ := fun _ => none) 1 .ifc 20 (by kernel_rfl) Op.maxDepth (by decide) .niliface .niliface .nilIface .nilIface true .niliface .niliface rfl
  have hb : (do let v ← (do eqGuard .neq 20 (.tmp 6) (.const .nilIface) .nilIface (a3.eval (.const .nilIface)); binOp .neq 20 .nilIface (a3.eval (.const .nilIface))); pure (Next.value v) : Sem Next).run Tryz.prog w = .ok (.value (.bool false)) w := by
    simp [Act.eval, eqGuard, binOp, Op.equal, he]
  have hb' : ((Sem.run Tryz.prog (eqGuard .neq 20 (.tmp 6) (.const .nilIface) .nilIface (a3.eval (.const .nilIface))) w).andThen fun a w' => (Sem.run Tryz.prog (binOp .neq 20 .nilIface (a3.eval (.const .nilIface))) w').andThen fun a w' => .ok (Next.value a) w') = .ok (Next.value (.bool false)) w := by
    simp [Act.eval, eqGuard, binOp, Op.equal, he]
  rw [hb', Oper.upon_value]
  have h7 : (a3.put (some 7) (.bool false)).eval (.tmp 7) = .bool false := put_self (by omega)
  generalize ha4 : a3.put (some 7) (.bool false) = a4 at *
  have hd4 : a4.defers = [] := by rw [← ha4, put_defers]; exact hd3
  show Code.wp _ _ _ a4 w
  refine wp_cond (t := false) h7 ?_
  refine wp_skip ⟨hd4, .returning, by rw [← hm], .tuple #[], ?_, ⟨_, rfl⟩, rfl, rfl, rfl, rfl, rfl⟩
  have hr : Tryz.f170.results = #[] := by kernel_rfl
  simp [results, hr]
end Go.Am
