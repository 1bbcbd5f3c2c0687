/- (seval) Raft: one replica alone, in the machine: the little calls. -/
import Derived.Test.YtmcbceppgaljnaaVmFit
import Derived.Test.YtmcbceppgaljnaaIr
set_option linter.unusedSectionVars false
set_option linter.unusedSimpArgs false
set_option linter.unusedVariables false
set_option maxHeartbeats 1000000
set_option maxRecDepth 10000
namespace Go.Vm.Ytmcbceppgaljnaa
open Go.Proofs
def iV (x : Int) : V := .int .i64 x
/-- A node's cells, alone in its list. -/
def nd (bc : V) (term vote : Int) (log : V) (role leader commit since heard timeout : Int) (votes nxt mtc snt : V) : List V :=
  [.int .i64 0, .int .i64 term, .int .i64 vote, .int .i64 0, .int .i64 0, .str [], bc, log, .int .i64 role, .int .i64 leader, .int .i64 commit, .int .i64 since, .int .i64 heard, .int .i64 timeout, .sl .nil 0 [], votes, nxt, mtc, snt, .int .i64 0, .int .i64 0, .str []]
def bcR : V := .sl .ro 1 [.int .i64 0]
def bcO : V := .osl 1 1 [.int .i64 0]
def e1 : List V := [.int .i64 1, .str [], .bool false, .sl .nil 0 []]
def e2 : List V := [.int .i64 1, .str [97], .bool false, .sl .nil 0 []]
def l1R : V := .sl .ro 1 e1
def l2R : V := .sl .ro 2 (e1 ++ e2)
def l1O : V := .osl 4 1 e1
def l2O : V := .osl 4 2 (e1 ++ e2)
theorem Clone_nil : Gf fns 27 [.sl .nil 0 []] = some (.sl .nil 0 [], []) := by
  refine Gf_start rfl rfl ?_
  simp -implicitDefEqProofs (disch := omega) only [go_sem, seval, go_sem]
theorem Clone_one : Gf fns 27 [.sl .ro 1 [.int .i64 0]] = some (.osl 1 1 [.int .i64 0], []) := by
  have e2 : (SK.ro == SK.nil) = false := rfl
  refine Gf_start rfl rfl ?_
  simp -implicitDefEqProofs (disch := omega) only [go_sem, seval, e2]
theorem Latest_nil : Gf fns 45 [.sl .ro 1 [.int .i64 0], .sl .nil 0 []] = some (.tup [.osl 1 1 [.int .i64 0], .int .i64 0], []) := by
  refine Gf_start rfl rfl ?_
  simp -implicitDefEqProofs (disch := omega) only [go_sem, seval, ↓wp_unroll, lp45_0, Clone_one]
theorem Latest_1 : Gf fns 45 [.sl .ro 1 [.int .i64 0], .sl .ro 1 e1] = some (.tup [.osl 1 1 [.int .i64 0], .int .i64 0], []) := by
  refine Gf_start rfl rfl ?_
  simp -implicitDefEqProofs (disch := omega) only [go_sem, seval, ↓wp_unroll, lp45_0, Clone_one, e1]
theorem Latest_2 : Gf fns 45 [.sl .ro 1 [.int .i64 0], .sl .ro 2 (e1 ++ e2)] = some (.tup [.osl 1 1 [.int .i64 0], .int .i64 0], []) := by
  refine Gf_start rfl rfl ?_
  simp -implicitDefEqProofs (disch := omega) only [go_sem, seval, ↓wp_unroll, lp45_0, Clone_one, e1, e2]
theorem NaN_ok (a : Int) : Gf fns 65 [.int .i64 a] = some (.bool false, []) := by
  refine Gf_start rfl rfl ?_
  simp -implicitDefEqProofs (disch := omega) only [go_sem, seval, go_sem]
theorem CNaN_ok (a : Int) : Gf fns 67 [.int .i64 a] = some (.bool false, []) := by
  refine Gf_start rfl rfl ?_
  simp -implicitDefEqProofs (disch := omega) only [go_sem, seval, go_sem]
theorem Less_ok (a b : Int) : Gf fns 64 [.int .i64 a, .int .i64 b] = some (.bool (decide (a < b)), []) := by
  refine Gf_start rfl rfl ?_
  simp -implicitDefEqProofs (disch := omega) only [go_sem, seval, NaN_ok, CNaN_ok]
theorem Search_ok : Gf fns 61 [.sl .ro 1 [.int .i64 0], .int .i64 0] = some (.tup [.int .i64 0, .bool true], []) := by
  refine Gf_start rfl rfl ?_
  simp -implicitDefEqProofs (disch := omega) only [go_sem, seval, ↓wp_unroll, lp61_0, Less_ok, show Int.fdiv 1 (2 ^ 1) = 0 from rfl, show IntKind.i64.wrap 0 = 0 from rfl]
theorem Has_ok : Gf fns 51 [.sl .ro 1 [.int .i64 0], .int .i64 0] = some (.bool true, []) := by
  refine Gf_start rfl rfl ?_
  simp -implicitDefEqProofs (disch := omega) only [go_sem, seval, Search_ok]
theorem W1_ok : Gf fns 60 [.int .i64 0, .pt [.int .i64 0] 0] = some (.bool true, []) := by
  refine Gf_start rfl rfl ?_
  simp -implicitDefEqProofs (disch := omega) only [go_sem, seval, go_sem]
theorem IdxF_ok : Gf fns 63 [.sl .ro 1 [.int .i64 0], .fn 60 [.pt [.int .i64 0] 0]] = some (.int .i64 0, []) := by
  refine Gf_start rfl rfl ?_
  simp -implicitDefEqProofs (disch := omega) only [go_sem, seval, ↓wp_unroll, lp63_0, callV_T at60, W1_ok]
theorem DelF_ok : Gf fns 59 [.osl 1 1 [.int .i64 0], .fn 60 [.pt [.int .i64 0] 0]] = some (.osl 1 0 [], []) := by
  refine Gf_start rfl rfl ?_
  simp -implicitDefEqProofs (disch := omega) only [go_sem, seval, ↓wp_unroll, lp59_0, IdxF_ok]
theorem Without_ok : Gf fns 49 [.sl .ro 1 [.int .i64 0], .int .i64 0] = some (.osl 1 0 [], []) := by
  refine Gf_start rfl rfl ?_
  simp -implicitDefEqProofs (disch := omega) only [go_sem, seval, Clone_one, DelF_ok]
theorem Most1_ok : Gf fns 52 [.int .i64 1] = some (.int .i64 1, []) := by
  refine Gf_start rfl rfl ?_
  simp -implicitDefEqProofs (disch := omega) only [go_sem, seval, show Int.tdiv 1 2 = 0 from rfl, show IntKind.i64.wrap 0 = 0 from rfl, show IntKind.i64.wrap (0 + 1) = 1 from rfl, show IntKind.i64.wrap 1 = 1 from rfl]
theorem Most_ok : Gf fns 33 [.sl .ro 1 [.int .i64 0], .rmp [(.int .i64 0, .bool true)]] = some (.bool true, []) := by
  refine Gf_start rfl rfl ?_
  simp -implicitDefEqProofs (disch := omega) only [go_sem, seval, ↓wp_unroll, lp33_0, Most1_ok]
end Go.Vm.Ytmcbceppgaljnaa
