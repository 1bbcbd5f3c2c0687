/- (seval) Raft: one replica alone, in the machine: its methods. -/
import Derived.Test.YtmcbceppgaljnaaRaftA
set_option linter.unusedSectionVars false
set_option linter.unusedSimpArgs false
set_option linter.unusedVariables false
set_option maxHeartbeats 2000000
set_option maxRecDepth 10000
namespace Go.Vm.Ytmcbceppgaljnaa
open Go.Proofs
variable (term vote role leader commit since heard timeout : Int) (vs nx mt sn : V)
theorem last_0 : Gf fns 17 [.pt (nd bcR term vote (.sl .nil 0 []) role leader commit since heard timeout vs nx mt sn) 0] = some (.int .i64 0, []) := by
  refine Gf_start rfl rfl ?_
  simp -implicitDefEqProofs (disch := omega) only [go_sem, seval, go_sem]
  refine wp_draw_E ?_
  simp -implicitDefEqProofs (disch := omega) only [go_sem, seval, nd, bcR, show IntKind.i64.wrap 0 = 0 from rfl]
theorem last_1 : Gf fns 17 [.pt (nd bcR term vote l1R role leader commit since heard timeout vs nx mt sn) 0] = some (.int .i64 1, []) := by
  refine Gf_start rfl rfl ?_
  simp -implicitDefEqProofs (disch := omega) only [go_sem, seval, go_sem]
  refine wp_draw_E ?_
  simp -implicitDefEqProofs (disch := omega) only [go_sem, seval, nd, bcR, l1R, e1, show IntKind.i64.wrap 1 = 1 from rfl]
theorem last_2 : Gf fns 17 [.pt (nd bcR term vote l2R role leader commit since heard timeout vs nx mt sn) 0] = some (.int .i64 2, []) := by
  refine Gf_start rfl rfl ?_
  simp -implicitDefEqProofs (disch := omega) only [go_sem, seval, go_sem]
  refine wp_draw_E ?_
  simp -implicitDefEqProofs (disch := omega) only [go_sem, seval, nd, bcR, l2R, e1, e2, show IntKind.i64.wrap 2 = 2 from rfl]
theorem term_1 : Gf fns 35 [.pt (nd bcR term vote l1R role leader commit since heard timeout vs nx mt sn) 0, .int .i64 1] = some (.tup [.int .i64 1, .bool true], []) := by
  have l := last_1 term vote role leader commit since heard timeout vs nx mt sn
  simp -implicitDefEqProofs (disch := omega) only [go_sem, seval, nd, bcR, l1R, e1] at l
  refine Gf_start rfl rfl ?_
  simp -implicitDefEqProofs (disch := omega) only [go_sem, seval, nd, bcR, l1R, e1, l]
  refine wp_draw_E ?_
  simp -implicitDefEqProofs (disch := omega) only [go_sem, seval, show IntKind.i64.wrap 1 = 1 from rfl, show IntKind.i64.wrap 0 = 0 from rfl]
theorem term_2 : Gf fns 35 [.pt (nd bcR term vote l2R role leader commit since heard timeout vs nx mt sn) 0, .int .i64 2] = some (.tup [.int .i64 1, .bool true], []) := by
  have l := last_2 term vote role leader commit since heard timeout vs nx mt sn
  simp -implicitDefEqProofs (disch := omega) only [go_sem, seval, nd, bcR, l2R, e1, e2] at l
  refine Gf_start rfl rfl ?_
  simp -implicitDefEqProofs (disch := omega) only [go_sem, seval, nd, bcR, l2R, e1, e2, l]
  refine wp_draw_E ?_
  simp -implicitDefEqProofs (disch := omega) only [go_sem, seval, show IntKind.i64.wrap 1 = 1 from rfl, show IntKind.i64.wrap 2 = 2 from rfl]
theorem Members_0 : Gf fns 24 [.pt (nd bcR term vote (.sl .nil 0 []) role leader commit since heard timeout vs nx mt sn) 0] = some (.osl 1 1 [.int .i64 0], []) := by
  refine Gf_start rfl rfl ?_
  simp -implicitDefEqProofs (disch := omega) only [go_sem, seval, go_sem]
  refine wp_draw_E ?_
  simp -implicitDefEqProofs (disch := omega) only [go_sem, seval, nd, bcR, Latest_nil]
theorem Members_1 : Gf fns 24 [.pt (nd bcR term vote l1R role leader commit since heard timeout vs nx mt sn) 0] = some (.osl 1 1 [.int .i64 0], []) := by
  have l := Latest_1
  simp -implicitDefEqProofs (disch := omega) only [go_sem, seval, e1] at l
  refine Gf_start rfl rfl ?_
  simp -implicitDefEqProofs (disch := omega) only [go_sem, seval, go_sem]
  refine wp_draw_E ?_
  simp -implicitDefEqProofs (disch := omega) only [go_sem, seval, nd, bcR, l1R, e1, l]
theorem Members_2 : Gf fns 24 [.pt (nd bcR term vote l2R role leader commit since heard timeout vs nx mt sn) 0] = some (.osl 1 1 [.int .i64 0], []) := by
  have l := Latest_2
  simp -implicitDefEqProofs (disch := omega) only [go_sem, seval, e1, e2] at l
  refine Gf_start rfl rfl ?_
  simp -implicitDefEqProofs (disch := omega) only [go_sem, seval, go_sem]
  refine wp_draw_E ?_
  simp -implicitDefEqProofs (disch := omega) only [go_sem, seval, nd, bcR, l2R, e1, e2, l]
theorem others_0 : Gf fns 29 [.pt (nd bcR term vote (.sl .nil 0 []) role leader commit since heard timeout vs nx mt sn) 0] = some (.osl 1 0 [], []) := by
  have l := Members_0 term vote role leader commit since heard timeout vs nx mt sn
  simp -implicitDefEqProofs (disch := omega) only [go_sem, seval, nd, bcR] at l
  refine Gf_start rfl rfl ?_
  simp -implicitDefEqProofs (disch := omega) only [go_sem, seval, go_sem]
  refine wp_draw_E ?_
  simp -implicitDefEqProofs (disch := omega) only [go_sem, seval, nd, bcR, l, Without_ok]
theorem others_1 : Gf fns 29 [.pt (nd bcR term vote l1R role leader commit since heard timeout vs nx mt sn) 0] = some (.osl 1 0 [], []) := by
  have l := Members_1 term vote role leader commit since heard timeout vs nx mt sn
  simp -implicitDefEqProofs (disch := omega) only [go_sem, seval, nd, bcR, l1R, e1] at l
  refine Gf_start rfl rfl ?_
  simp -implicitDefEqProofs (disch := omega) only [go_sem, seval, go_sem]
  refine wp_draw_E ?_
  simp -implicitDefEqProofs (disch := omega) only [go_sem, seval, nd, bcR, l1R, e1, l, Without_ok]
theorem others_2 : Gf fns 29 [.pt (nd bcR term vote l2R role leader commit since heard timeout vs nx mt sn) 0] = some (.osl 1 0 [], []) := by
  have l := Members_2 term vote role leader commit since heard timeout vs nx mt sn
  simp -implicitDefEqProofs (disch := omega) only [go_sem, seval, nd, bcR, l2R, e1, e2] at l
  refine Gf_start rfl rfl ?_
  simp -implicitDefEqProofs (disch := omega) only [go_sem, seval, go_sem]
  refine wp_draw_E ?_
  simp -implicitDefEqProofs (disch := omega) only [go_sem, seval, nd, bcR, l2R, e1, e2, l, Without_ok]
theorem stands_0 : Gf fns 31 [.pt (nd bcR term vote (.sl .nil 0 []) role leader commit since heard timeout vs nx mt sn) 0] = some (.bool true, []) := by
  refine Gf_start rfl rfl ?_
  simp -implicitDefEqProofs (disch := omega) only [go_sem, seval, go_sem]
  refine wp_draw_E ?_
  simp -implicitDefEqProofs (disch := omega) only [go_sem, seval, nd, bcR, Latest_nil, Has_ok]
end Go.Vm.Ytmcbceppgaljnaa
