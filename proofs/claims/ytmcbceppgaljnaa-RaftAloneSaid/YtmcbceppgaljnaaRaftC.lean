/- (seval) Raft: one replica alone, in the machine: it leads. -/
import Derived.Test.YtmcbceppgaljnaaRaftB
set_option linter.unusedSectionVars false
set_option linter.unusedSimpArgs false
set_option linter.unusedVariables false
set_option maxHeartbeats 4000000
set_option maxRecDepth 10000
namespace Go.Vm.Ytmcbceppgaljnaa
open Go.Proofs
def noV : V := .sl .nil 0 []
def vt : List (V × V) := [(.int .i64 0, .bool true)]
def ndF (since heard : Int) : List V := nd bcO 0 (-1) noV 1 (-1) 0 since heard 10 .nilm .nilm .nilm .nilm
def ndC (since heard timeout : Int) : List V := nd bcO 1 0 noV 2 (-1) 0 since heard timeout (.omp vt) .nilm .nilm .nilm
def ndL (log : V) (commit since heard : Int) : List V := nd bcO 1 0 log 3 0 commit since heard 13 (.omp vt) (.omp []) (.omp []) (.omp [])
variable (since heard timeout : Int)
theorem rest_F : Gf fns 32 [.opt (nd bcO 0 (-1) noV 1 (-1) 0 since heard timeout .nilm .nilm .nilm .nilm)] = some (.tup [], [.opt (ndF 0 heard)]) := by
  refine Gf_start rfl rfl ?_
  simp -implicitDefEqProofs (maxSteps := 2000000) (disch := omega) only [go_sem, seval, nd, bcO, noV]
  refine wp_draw_E ?_
  simp -implicitDefEqProofs (maxSteps := 2000000) (disch := omega) only [go_sem, seval, ndF, nd, bcO, noV, show IntKind.i64.wrap 0 = 0 from rfl, show Int.tmod 0 20 = 0 from rfl, show IntKind.i64.wrap 20 = 20 from rfl, show Int.tmod 20 20 = 0 from rfl, show IntKind.i64.wrap 10 = 10 from rfl]
theorem rest_C : Gf fns 32 [.opt (ndC since heard timeout)] = some (.tup [], [.opt (ndC 0 heard 13)]) := by
  refine Gf_start rfl rfl ?_
  simp -implicitDefEqProofs (maxSteps := 2000000) (disch := omega) only [go_sem, seval, ndC, nd, bcO, noV, vt]
  refine wp_draw_E ?_
  simp -implicitDefEqProofs (maxSteps := 2000000) (disch := omega) only [go_sem, seval, show IntKind.i64.wrap 0 = 0 from rfl, show IntKind.i64.wrap 3 = 3 from rfl, show Int.tmod 3 20 = 3 from rfl, show IntKind.i64.wrap 23 = 23 from rfl, show Int.tmod 23 20 = 3 from rfl, show IntKind.i64.wrap 13 = 13 from rfl]
theorem follow_F : Gf fns 28 [.opt (nd bcO 0 (-1) noV 0 (-1) 0 0 0 0 .nilm .nilm .nilm .nilm), .int .i64 0, .int .i64 (-1)] = some (.tup [], [.opt (ndF 0 0)]) := by
  have r := rest_F 0 0 0
  simp -implicitDefEqProofs (maxSteps := 2000000) (disch := omega) only [go_sem, seval, ndF, nd, bcO, noV] at r
  refine Gf_start rfl rfl ?_
  simp -implicitDefEqProofs (maxSteps := 2000000) (disch := omega) only [go_sem, seval, ndF, nd, bcO, noV, callr32, r]
theorem advance_1 : Gf fns 36 [.opt (ndL l1O 0 since heard)] = some (.tup [], [.opt (ndL l1O 1 since heard)]) := by
  have a := last_1 1 0 3 0 0 since heard 13 (.rmp vt) (.rmp []) (.rmp []) (.rmp [])
  have b := term_1 1 0 3 0 0 since heard 13 (.rmp vt) (.rmp []) (.rmp []) (.rmp [])
  have c := Members_1 1 0 3 0 0 since heard 13 (.rmp vt) (.rmp []) (.rmp []) (.rmp [])
  simp -implicitDefEqProofs (maxSteps := 2000000) (disch := omega) only [go_sem, seval, nd, bcR, l1R, e1, vt] at a b c
  refine Gf_start rfl rfl ?_
  simp -implicitDefEqProofs (maxSteps := 2000000) (disch := omega) only [go_sem, seval, ndL, nd, bcO, noV, l1O, e1, vt, a, ↓wp_unroll, lp36_0, lp36_1, b, c, Most_ok]
theorem advance_2 : Gf fns 36 [.opt (ndL l2O 1 since heard)] = some (.tup [], [.opt (ndL l2O 2 since heard)]) := by
  have a := last_2 1 0 3 0 1 since heard 13 (.rmp vt) (.rmp []) (.rmp []) (.rmp [])
  have b := term_2 1 0 3 0 1 since heard 13 (.rmp vt) (.rmp []) (.rmp []) (.rmp [])
  have c := Members_2 1 0 3 0 1 since heard 13 (.rmp vt) (.rmp []) (.rmp []) (.rmp [])
  simp -implicitDefEqProofs (maxSteps := 2000000) (disch := omega) only [go_sem, seval, nd, bcR, l2R, e1, e2, vt] at a b c
  refine Gf_start rfl rfl ?_
  simp -implicitDefEqProofs (maxSteps := 2000000) (disch := omega) only [go_sem, seval, ndL, nd, bcO, noV, l2O, e1, e2, vt, a, ↓wp_unroll, lp36_0, lp36_1, b, c, Most_ok]
theorem tellAll_1 : Gf fns 15 [.opt (ndL l1O 1 since heard)] = some (noV, [.opt (ndL l1O 1 0 heard)]) := by
  have c := others_1 1 0 3 0 1 0 heard 13 (.rmp vt) (.rmp []) (.rmp []) (.rmp [])
  simp -implicitDefEqProofs (maxSteps := 2000000) (disch := omega) only [go_sem, seval, nd, bcR, l1R, e1, vt] at c
  refine Gf_start rfl rfl ?_
  simp -implicitDefEqProofs (maxSteps := 2000000) (disch := omega) only [go_sem, seval, ndL, nd, bcO, noV, l1O, e1, vt, c, ↓wp_unroll, lp15_0]
theorem tellAll_2 (commit : Int) : Gf fns 15 [.opt (ndL l2O commit since heard)] = some (noV, [.opt (ndL l2O commit 0 heard)]) := by
  have c := others_2 1 0 3 0 commit 0 heard 13 (.rmp vt) (.rmp []) (.rmp []) (.rmp [])
  simp -implicitDefEqProofs (maxSteps := 2000000) (disch := omega) only [go_sem, seval, nd, bcR, l2R, e1, e2, vt] at c
  refine Gf_start rfl rfl ?_
  simp -implicitDefEqProofs (maxSteps := 2000000) (disch := omega) only [go_sem, seval, ndL, nd, bcO, noV, l2O, e1, e2, vt, c, ↓wp_unroll, lp15_0]
theorem lead_ok : Gf fns 34 [.opt (ndC 0 heard 13)] = some (noV, [.opt (ndL l1O 1 0 heard)]) := by
  have a := others_0 1 0 3 0 0 0 heard 13 (.rmp vt) (.rmp []) (.rmp []) (.rmp [])
  have b := advance_1 0 heard
  have c := tellAll_1 0 heard
  simp -implicitDefEqProofs (maxSteps := 2000000) (disch := omega) only [go_sem, seval, nd, bcR, noV, vt] at a
  simp -implicitDefEqProofs (maxSteps := 2000000) (disch := omega) only [go_sem, seval, ndL, nd, bcO, noV, l1O, e1, vt] at b c
  refine Gf_start rfl rfl ?_
  simp -implicitDefEqProofs (maxSteps := 2000000) (disch := omega) only [go_sem, seval, ndC, nd, bcO, noV, vt, a, ↓wp_unroll, lp34_0]
  refine wp_draw_E ?_
  simp -implicitDefEqProofs (maxSteps := 2000000) (disch := omega) only [go_sem, seval, ]
  simp -implicitDefEqProofs (maxSteps := 2000000) (disch := omega) only [go_sem, seval, callr36, b]
  simp -implicitDefEqProofs (maxSteps := 2000000) (disch := omega) only [go_sem, seval, callr15, c, ndL, nd, bcO, noV, l1O, e1, vt]
theorem campaign_ok : Gf fns 16 [.opt (ndF 10 heard)] = some (noV, [.opt (ndL l1O 1 0 heard)]) := by
  have a := stands_0 0 (-1) 1 (-1) 0 10 heard 10 .nilm .nilm .nilm .nilm
  have b := rest_C 10 heard 10
  have c := Members_0 1 0 2 (-1) 0 0 heard 13 (.rmp vt) .nilm .nilm .nilm
  have d := lead_ok heard
  simp -implicitDefEqProofs (maxSteps := 2000000) (disch := omega) only [go_sem, seval, nd, bcR, noV, vt] at a c
  simp -implicitDefEqProofs (maxSteps := 2000000) (disch := omega) only [go_sem, seval, ndC, ndL, nd, bcO, noV, l1O, e1, vt] at b d
  refine Gf_start rfl rfl ?_
  simp -implicitDefEqProofs (maxSteps := 2000000) (disch := omega) only [go_sem, seval, ndF, nd, bcO, noV, a, callr32, b, show IntKind.i64.wrap 1 = 1 from rfl]
  refine wp_draw_E ?_
  simp -implicitDefEqProofs (maxSteps := 2000000) (disch := omega) only [go_sem, seval, c, Most_ok]
  simp -implicitDefEqProofs (maxSteps := 2000000) (disch := omega) only [go_sem, seval, callr34, d, ndL, nd, bcO, noV, l1O, e1, vt]
end Go.Vm.Ytmcbceppgaljnaa
