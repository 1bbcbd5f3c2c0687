/- (seval) Raft: one replica alone, in the machine: it begins, waits, leads and is asked. -/
import Derived.Test.YtmcbceppgaljnaaRaftC
set_option linter.unusedSectionVars false
set_option linter.unusedSimpArgs false
set_option linter.unusedVariables false
set_option maxHeartbeats 4000000
set_option maxRecDepth 10000
namespace Go.Vm.Ytmcbceppgaljnaa
open Go.Proofs
theorem CloneE_nil : Gf fns 46 [.sl .nil 0 []] = some (.sl .nil 0 [], []) := by
  refine Gf_start rfl rfl ?_
  simp -implicitDefEqProofs (maxSteps := 2000000) (disch := omega) only [go_sem, seval, ↓wp_unroll, lp46_0]
theorem CloneE_2 : Gf fns 25 [.agg e2] = some (.agg e2, []) := by
  refine Gf_start rfl rfl ?_
  simp -implicitDefEqProofs (maxSteps := 2000000) (disch := omega) only [go_sem, seval, e2, Clone_nil]
theorem clone_0 : Gf fns 26 [.agg [.int .i64 0, .int .i64 (-1), .int .i64 0, .int .i64 0, .str [], .sl .ro 1 [.int .i64 0], .sl .nil 0 []]] = some (.agg [.int .i64 0, .int .i64 (-1), .int .i64 0, .int .i64 0, .str [], .osl 1 1 [.int .i64 0], .sl .nil 0 []], []) := by
  refine Gf_start rfl rfl ?_
  simp -implicitDefEqProofs (maxSteps := 2000000) (disch := omega) only [go_sem, seval, CloneE_nil, Clone_one]
theorem clone_n : Gf fns 26 [.agg [.int .i64 0, .int .i64 (-1), .int .i64 0, .int .i64 0, .str [], .sl .nil 0 [], .sl .nil 0 []]] = some (.agg [.int .i64 0, .int .i64 (-1), .int .i64 0, .int .i64 0, .str [], .sl .nil 0 [], .sl .nil 0 []], []) := by
  refine Gf_start rfl rfl ?_
  simp -implicitDefEqProofs (maxSteps := 2000000) (disch := omega) only [go_sem, seval, CloneE_nil, Clone_nil]
theorem New_0 : Gf fns 14 [.int .i64 0, .agg [.int .i64 0, .int .i64 (-1), .int .i64 0, .int .i64 0, .str [], .sl .ro 1 [.int .i64 0], .sl .nil 0 []], .sl .nil 0 []] = some (.tup [.opt (ndF 0 0), .int .i64 0], []) := by
  have f := follow_F
  simp -implicitDefEqProofs (maxSteps := 2000000) (disch := omega) only [go_sem, seval, ndF, nd, bcO, noV] at f
  refine Gf_start rfl rfl ?_
  simp -implicitDefEqProofs (maxSteps := 2000000) (disch := omega) only [go_sem, seval, ]
  refine wp_draw_E ?_
  simp -implicitDefEqProofs (maxSteps := 2000000) (disch := omega) only [go_sem, seval, clone_0, Clone_nil]
  simp -implicitDefEqProofs (maxSteps := 2000000) (disch := omega) only [go_sem, seval, callr28, f, ndF, nd, bcO, noV]
theorem Tick_f (s h : Nat) (hs : s + 1 < 10) (hh : h < 100) : Gf fns 5 [.opt (ndF s h)] = some (noV, [.opt (ndF ((s + 1 : Nat) : Int) ((h + 1 : Nat) : Int))]) := by
  have h2 : ¬ 10 ≤ s + 1 := by omega
  refine Gf_start rfl rfl ?_
  simp -implicitDefEqProofs (maxSteps := 2000000) (disch := omega) only [go_sem, seval, ndF, nd, bcO, noV]
  refine wp_draw_E ?_
  simp -implicitDefEqProofs (maxSteps := 2000000) (disch := omega) only [go_sem, seval, h2]
theorem Tick_c (h : Nat) (hh : h < 100) : Gf fns 5 [.opt (ndF 9 h)] = some (noV, [.opt (ndL l1O 1 0 ((h + 1 : Nat) : Int))]) := by
  have c := campaign_ok ((h + 1 : Nat) : Int)
  simp -implicitDefEqProofs (maxSteps := 2000000) (disch := omega) only [go_sem, seval, ndF, ndL, nd, bcO, noV, l1O, e1, vt] at c
  refine Gf_start rfl rfl ?_
  simp -implicitDefEqProofs (maxSteps := 2000000) (disch := omega) only [go_sem, seval, ndF, nd, bcO, noV, show IntKind.i64.wrap 10 = 10 from rfl]
  refine wp_draw_E ?_
  simp -implicitDefEqProofs (maxSteps := 2000000) (disch := omega) only [go_sem, seval, ]
  simp -implicitDefEqProofs (maxSteps := 2000000) (disch := omega) only [go_sem, seval, callr16, c, ndL, nd, bcO, noV, l1O, e1, vt]
theorem Tick_l (s h : Nat) (hs : s + 1 < 3) (hh : h < 100) : Gf fns 5 [.opt (ndL l1O 1 s h)] = some (noV, [.opt (ndL l1O 1 ((s + 1 : Nat) : Int) ((h + 1 : Nat) : Int))]) := by
  have h2 : ¬ 3 ≤ s + 1 := by omega
  refine Gf_start rfl rfl ?_
  simp -implicitDefEqProofs (maxSteps := 2000000) (disch := omega) only [go_sem, seval, ndL, nd, bcO, noV, l1O, e1, vt, h2]
  refine wp_draw_E ?_
  simp -implicitDefEqProofs (maxSteps := 2000000) (disch := omega) only [go_sem, seval, ]
theorem Tick_t (h : Nat) (hh : h < 100) : Gf fns 5 [.opt (ndL l1O 1 2 h)] = some (noV, [.opt (ndL l1O 1 0 ((h + 1 : Nat) : Int))]) := by
  have c := tellAll_1 3 ((h + 1 : Nat) : Int)
  simp -implicitDefEqProofs (maxSteps := 2000000) (disch := omega) only [go_sem, seval, ndL, nd, bcO, noV, l1O, e1, vt] at c
  refine Gf_start rfl rfl ?_
  simp -implicitDefEqProofs (maxSteps := 2000000) (disch := omega) only [go_sem, seval, ndL, nd, bcO, noV, l1O, e1, vt, show IntKind.i64.wrap 3 = 3 from rfl]
  simp -implicitDefEqProofs (maxSteps := 2000000) (disch := omega) only [go_sem, seval, callr15, c]
variable (since heard : Int)
theorem leave_2 : Gf fns 37 [.opt (ndL l2O 2 since heard)] = some (.tup [], [.opt (ndL l2O 2 since heard)]) := by
  have c := Members_2 1 0 3 0 2 since heard 13 (.rmp vt) (.rmp []) (.rmp []) (.rmp [])
  simp -implicitDefEqProofs (maxSteps := 2000000) (disch := omega) only [go_sem, seval, nd, bcR, l2R, e1, e2, vt] at c
  refine Gf_start rfl rfl ?_
  simp -implicitDefEqProofs (maxSteps := 2000000) (disch := omega) only [go_sem, seval, ndL, nd, bcO, noV, l2O, e1, e2, vt]
  refine wp_draw_E ?_
  simp -implicitDefEqProofs (maxSteps := 2000000) (disch := omega) only [go_sem, seval, c, Has_ok]
theorem put_ok : Gf fns 18 [.opt (ndL l1O 1 since heard), .agg e2] = some (.tup [.int .i64 2, noV, .bool true], [.opt (ndL l2O 2 0 heard)]) := by
  have a := advance_2 since heard
  have b := last_2 1 0 3 0 2 since heard 13 (.rmp vt) (.rmp []) (.rmp []) (.rmp [])
  have c := tellAll_2 since heard 2
  have d := leave_2 0 heard
  simp -implicitDefEqProofs (maxSteps := 2000000) (disch := omega) only [go_sem, seval, nd, bcR, l2R, e1, e2, vt] at b
  simp -implicitDefEqProofs (maxSteps := 2000000) (disch := omega) only [go_sem, seval, ndL, nd, bcO, noV, l2O, e1, e2, vt] at a c d
  refine Gf_start rfl rfl ?_
  simp -implicitDefEqProofs (maxSteps := 2000000) (disch := omega) only [go_sem, seval, ndL, nd, bcO, noV, l1O, e1, e2, vt]
  refine wp_draw_E ?_
  simp -implicitDefEqProofs (maxSteps := 2000000) (disch := omega) only [go_sem, seval, ]
  simp -implicitDefEqProofs (maxSteps := 2000000) (disch := omega) only [go_sem, seval, callr36, a, b]
  simp -implicitDefEqProofs (maxSteps := 2000000) (disch := omega) only [go_sem, seval, callr15, c]
  simp -implicitDefEqProofs (maxSteps := 2000000) (disch := omega) only [go_sem, seval, callr37, d, ndL, nd, bcO, noV, l2O, e1, e2, vt]
theorem Propose_ok : Gf fns 10 [.opt (ndL l1O 1 since heard), .str [97]] = some (.tup [.int .i64 2, noV, .bool true], [.opt (ndL l2O 2 0 heard)]) := by
  have b := last_1 1 0 3 0 1 since heard 13 (.rmp vt) (.rmp []) (.rmp []) (.rmp [])
  have c := put_ok since heard
  simp -implicitDefEqProofs (maxSteps := 2000000) (disch := omega) only [go_sem, seval, nd, bcR, l1R, e1, vt] at b
  simp -implicitDefEqProofs (maxSteps := 2000000) (disch := omega) only [go_sem, seval, ndL, nd, bcO, noV, l1O, l2O, e1, e2, vt] at c
  refine Gf_start rfl rfl ?_
  simp -implicitDefEqProofs (maxSteps := 2000000) (disch := omega) only [go_sem, seval, ndL, nd, bcO, noV, l1O, e1, vt, b]
  simp -implicitDefEqProofs (maxSteps := 2000000) (disch := omega) only [go_sem, seval, callr18, c, ndL, nd, bcO, noV, l2O, e1, e2, vt]
theorem Entry_ok : Gf fns 13 [.pt (nd bcR 1 0 l2R 3 0 2 since heard 13 (.rmp vt) (.rmp []) (.rmp []) (.rmp [])) 0, .int .i64 2] = some (.tup [.agg e2, .bool true], []) := by
  have c := CloneE_2
  simp -implicitDefEqProofs (maxSteps := 2000000) (disch := omega) only [go_sem, seval, e2] at c
  refine Gf_start rfl rfl ?_
  simp -implicitDefEqProofs (maxSteps := 2000000) (disch := omega) only [go_sem, seval, nd, bcR, l2R, e1, e2, vt, show IntKind.i64.wrap 2 = 2 from rfl]
  refine wp_draw_E ?_
  simp -implicitDefEqProofs (maxSteps := 2000000) (disch := omega) only [go_sem, seval, show IntKind.i64.wrap 2 = 2 from rfl, show IntKind.i64.wrap 1 = 1 from rfl, c]
theorem Role_ok : Gf fns 7 [.pt (nd bcR 1 0 l2R 3 0 2 since heard 13 (.rmp vt) (.rmp []) (.rmp []) (.rmp [])) 0] = some (.int .i64 3, []) := by
  refine Gf_start rfl rfl ?_
  simp -implicitDefEqProofs (maxSteps := 2000000) (disch := omega) only [go_sem, seval, nd, bcR, l2R, e1, e2, vt]
end Go.Vm.Ytmcbceppgaljnaa
