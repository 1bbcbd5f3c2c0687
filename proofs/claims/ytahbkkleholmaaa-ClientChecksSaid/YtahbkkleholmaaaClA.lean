/- (seval) Clients: one call is asked for, and told: the little calls. -/
import Derived.Test.YtahbkkleholmaaaTxF
import Derived.Test.YtahbkkleholmaaaHeadA
set_option linter.unusedSectionVars false
set_option linter.unusedSimpArgs false
set_option linter.unusedVariables false
set_option maxHeartbeats 2000000
set_option maxRecDepth 10000
namespace Go.Vm.Ytahbkkleholmaaa
open Go.Proofs
def opC : List V := [.int .i64 1, .str [97], .str []]
def callC : List V := [.int .i64 1, .sl .ro 1 opC, .str [], .int .u64 0, .sl .nil 0 []]
def t1 : Tn := ⟨1, 1, [⟨1, [97], []⟩]⟩
theorem t1_ok : okTx t1 = true := by kernel_rfl
theorem TxC_ok : Gf fns 20 [.agg [.int .u64 0, .int .u64 1, .sl .ro 1 opC]] = some (.int .i64 0, []) := by
  have h := Check_ok (t := ⟨0, 1, [⟨1, [97], []⟩]⟩) .ro (by simp) (by decide) (by intro o ho; simp at ho; subst ho; exact ⟨by decide, by decide⟩)
  rw [show okTx ⟨0, 1, [⟨1, [97], []⟩]⟩ = true by kernel_rfl] at h
  exact h
theorem CallC_ok : Gf fns 7 [.agg callC] = some (.bool true, []) := by
  have h := TxC_ok
  simp -implicitDefEqProofs (disch := omega) only [go_sem, seval, opC] at h
  refine Gf_start rfl rfl ?_
  simp -implicitDefEqProofs (disch := omega) only [go_sem, seval, callC, opC, h]
theorem New1_ok : Gf fns 16 [.agg callC] = some (.bool false, []) := by
  have h := CallC_ok
  simp -implicitDefEqProofs (disch := omega) only [go_sem, seval, callC, opC] at h
  refine Gf_start rfl rfl ?_
  simp -implicitDefEqProofs (disch := omega) only [go_sem, seval, callC, opC, h]
theorem IdxC_ok : Gf fns 30 [.sl .ro 1 callC, .fn 16 []] = some (.int .i64 (-1), []) := by
  have h := New1_ok
  simp -implicitDefEqProofs (disch := omega) only [go_sem, seval, callC, opC] at h
  refine Gf_start rfl rfl ?_
  simp -implicitDefEqProofs (disch := omega) only [go_sem, seval, callC, opC, ↓wp_unroll, lp30_0, callV_T at16, h]
theorem ConC_ok : Gf fns 15 [.sl .ro 1 callC, .fn 16 []] = some (.bool false, []) := by
  have h := IdxC_ok
  simp -implicitDefEqProofs (disch := omega) only [go_sem, seval, callC, opC] at h
  refine Gf_start rfl rfl ?_
  simp -implicitDefEqProofs (disch := omega) only [go_sem, seval, callC, opC, h]
theorem CloneCalls : Gf fns 17 [.sl .ro 1 callC] = some (.osl 5 1 callC, []) := by
  have e2 : (SK.ro == SK.nil) = false := rfl
  refine Gf_start rfl rfl ?_
  simp -implicitDefEqProofs (disch := omega) only [go_sem, seval, callC, opC, e2]
theorem CloneOps : Gf fns 51 [.sl .ro 1 opC] = some (.osl 3 1 opC, []) := by
  have e2 : (SK.ro == SK.nil) = false := rfl
  refine Gf_start rfl rfl ?_
  simp -implicitDefEqProofs (disch := omega) only [go_sem, seval, opC, e2]
theorem CNew_ok : Gf fns 5 [.int .i64 0, .int .i64 1, .sl .ro 1 callC] = some (.tup [.opt [.int .i64 0, .int .i64 1, .int .i64 0, .osl 5 1 callC, .int .i64 0, .int .u64 1, .int .i64 0, .int .i64 0, .sl .nil 0 []], .int .i64 0], []) := by
  have h := ConC_ok
  have c := CloneCalls
  simp -implicitDefEqProofs (disch := omega) only [go_sem, seval, callC, opC] at h c
  refine Gf_start rfl rfl ?_
  simp -implicitDefEqProofs (disch := omega) only [go_sem, seval, callC, opC, h, c]
end Go.Vm.Ytahbkkleholmaaa
