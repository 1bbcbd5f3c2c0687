/- (seval) Raft: a replica alone: its world begins. -/
import Derived.Test.YtmcbceppgaljnaaRwF
set_option linter.unusedSectionVars false
set_option linter.unusedSimpArgs false
set_option linter.unusedVariables false
set_option maxHeartbeats 4000000
set_option maxRecDepth 10000
namespace Go.Vm.Ytmcbceppgaljnaa
open Go.Proofs
variable {σ : Store}
/-- The world's cells; a node's, whose rows are blocks. -/
def wB (ga gm gl gh : Nat) : List V := [.sli 5248576 ga 0 1 1, .sl .nil 0 [], .mp 5243968 gm, .mp 5244032 gl, .sli 5248960 gh 0 1 1]
def BegQ (q : V × Store) : Prop := ∃ g ga gm gl gh p gb gd, q.1 = .tup [.ptr 5244160 g 0, .bool true] ∧ q.2 5244160 = ⟨g, .rw, false, wB ga gm gl gh⟩ ∧
  q.2 5248576 = ⟨ga, .rw, false, [.ptr 5247424 p 0]⟩ ∧ q.2 5248960 = ⟨gh, .rw, true, [.int .i64 0]⟩ ∧
  q.2 5247424 = ⟨p, .rw, false, na (.sli 5247425 gb 0 1 1) 0 (-1) nO 1 (-1) 0 0 0 10 (.sli 5247426 gd 0 0 1) .nilm .nilm .nilm .nilm⟩ ∧
  q.2 5247425 = ⟨gb, .rw, true, [.int .i64 0]⟩ ∧ q.2 5247426 = ⟨gd, .rw, true, []⟩
theorem begun_ok (h : σ 1088 = ⟨1, .rw, true, [.int .i64 0]⟩) : ∃ v σ', Hf fns 4 [.int .i64 1, .sli 1088 1 0 1 1, .sl .nil 0 []] σ = some (v, σ') ∧ BegQ (v, σ') := by
  have n := New_z
  simp -implicitDefEqProofs (maxSteps := 2000000) (disch := omega) only [go_sem, seval, fA, na, dO, dN, bO, nO] at n
  refine Hf_start (f := 4) rfl rfl ?_
  simp -implicitDefEqProofs (maxSteps := 2000000) (disch := omega) only [go_sem, seval, ↓wp_unroll, lp4_0, lp4_1, lp4_2, h, callr14, n]
  refine wp_draw_E ?_
  simp -implicitDefEqProofs (maxSteps := 2000000) (disch := omega) only [go_sem, seval, ↓wp_unroll, lp4_0, lp4_1, lp4_2]
  exact ⟨(σ 5244160).gen + 1, (σ 5248576).gen + 1, (σ 5243968).gen + 1, (σ 5244032).gen + 1, (σ 5248960).gen + 1, (σ 5247424).gen + 1, (σ 5247425).gen + 1, (σ 5247426).gen + 1, rfl, by simp -implicitDefEqProofs (maxSteps := 2000000) (disch := omega) only [go_sem, seval, wB], by simp -implicitDefEqProofs (maxSteps := 2000000) (disch := omega) only [go_sem, seval, ], by simp -implicitDefEqProofs (maxSteps := 2000000) (disch := omega) only [go_sem, seval, ], by simp -implicitDefEqProofs (maxSteps := 2000000) (disch := omega) only [go_sem, seval, na, nO], by simp -implicitDefEqProofs (maxSteps := 2000000) (disch := omega) only [go_sem, seval, ], by simp -implicitDefEqProofs (maxSteps := 2000000) (disch := omega) only [go_sem, seval, ]⟩
end Go.Vm.Ytmcbceppgaljnaa
