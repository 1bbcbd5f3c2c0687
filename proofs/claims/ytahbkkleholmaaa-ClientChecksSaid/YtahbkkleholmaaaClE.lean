/- (seval) Clients: one call is done. -/
import Derived.Test.YtahbkkleholmaaaClD
set_option linter.unusedSectionVars false
set_option linter.unusedSimpArgs false
set_option linter.unusedVariables false
set_option maxHeartbeats 4000000
set_option maxRecDepth 10000
namespace Go.Vm.Ytahbkkleholmaaa
open Go.Proofs
def hC : List V := [.int .i64 0, .int .i64 0] ++ toldC ++ [.int .u64 1, .int .u64 1, .sl .ro 1 opC]
def c0 : V := .opt (clC (.osl 5 1 callC) 0 1 0 0 (.sl .nil 0 []))
def c1 : V := .opt (clC (.osl 5 1 callC) 0 1 4 1 (.sl .nil 0 []))
def c2 : V := .opt (clC (.osl 5 1 callC) 1 2 0 0 (.osl 21 1 hC))
theorem Ended_0 (nonce since silent : Int) (h : V) : Gf fns 11 [.pt (clC (.sl .ro 1 callC) 0 nonce since silent h) 0] = some (.bool false, []) := by
  refine Gf_start rfl rfl ?_
  simp -implicitDefEqProofs (disch := omega) only [go_sem, seval, clC, callC, opC]
  refine wp_draw_E ?_
  simp -implicitDefEqProofs (disch := omega) only [go_sem, seval, go_sem]
theorem Ended_1 (nonce since silent : Int) (h : V) : Gf fns 11 [.pt (clC (.sl .ro 1 callC) 1 nonce since silent h) 0] = some (.bool true, []) := by
  refine Gf_start rfl rfl ?_
  simp -implicitDefEqProofs (disch := omega) only [go_sem, seval, clC, callC, opC]
  refine wp_draw_E ?_
  simp -implicitDefEqProofs (disch := omega) only [go_sem, seval, go_sem]
theorem say_ok : Gf fns 18 [.agg [.int .i64 100, .int .i64 0, .str askB]] = some (.agg (sayC 3 (askC (.osl 3 1 opC)) told0), []) := by
  have d := DecA_ok
  simp -implicitDefEqProofs (disch := omega) only [go_sem, seval, sayC, askC, told0, opC, List.cons_append, List.nil_append] at d
  refine Gf_start rfl rfl ?_
  simp -implicitDefEqProofs (disch := omega) only [go_sem, seval, d, sayC, askC, told0, opC, List.cons_append, List.nil_append]
theorem Tick_ok : Gf fns 10 [c0] = some (.osl 3 1 [.int .i64 100, .int .i64 0, .str askB], [c1]) := by
  have e := Ended_0 1 0 0 (.sl .nil 0 [])
  have a := ask_ok 4 1 (.sl .nil 0 [])
  have n := EncA_ok
  simp -implicitDefEqProofs (disch := omega) only [go_sem, seval, clC, callC, opC, askC] at e a
  simp -implicitDefEqProofs (disch := omega) only [go_sem, seval, sayC, askC, told0, opC, List.cons_append, List.nil_append] at n
  refine Gf_start rfl rfl ?_
  simp -implicitDefEqProofs (disch := omega) only [go_sem, seval, c0, clC, callC, opC, e, show IntKind.i64.wrap (0 - 1) = -1 from rfl, show IntKind.i64.wrap (-1) = -1 from rfl, show IntKind.i64.wrap 1 = 1 from rfl]
  refine wp_draw_E ?_
  simp -implicitDefEqProofs (disch := omega) only [go_sem, seval, show IntKind.i64.wrap 100 = 100 from rfl, a]
  simp -implicitDefEqProofs (disch := omega) only [go_sem, seval, n, c1, clC, callC, opC, askC]
theorem told_ok : Gf fns 26 [c1, .int .i64 0, .agg toldC] = some (.tup [], [c2]) := by
  have a := ask_ok 4 1 (.sl .nil 0 [])
  simp -implicitDefEqProofs (disch := omega) only [go_sem, seval, clC, callC, opC, askC] at a
  refine Gf_start rfl rfl ?_
  simp -implicitDefEqProofs (disch := omega) only [go_sem, seval, c1, clC, callC, opC, toldC, a, show IntKind.i64.wrap 1 = 1 from rfl, show IntKind.u64.wrap 2 = 2 from rfl]
  refine wp_draw_E ?_
  simp -implicitDefEqProofs (disch := omega) only [go_sem, seval, splice, List.take_succ_cons, List.take_zero, List.drop_succ_cons, List.drop_zero, List.cons_append, List.nil_append]
  simp -implicitDefEqProofs (disch := omega) only [go_sem, seval, c2, hC, clC, callC, opC, toldC, List.cons_append, List.nil_append, show IntKind.i64.wrap 1 = 1 from rfl]
theorem Handle_ok : Gf fns 9 [c1, .agg [.int .i64 0, .int .i64 100, .str toldB]] = some (.tup [], [c2]) := by
  have e := Ended_0 1 4 1 (.sl .nil 0 [])
  have d := DecT_ok
  have t := told_ok
  simp -implicitDefEqProofs (disch := omega) only [go_sem, seval, clC, callC, opC] at e
  simp -implicitDefEqProofs (disch := omega) only [go_sem, seval, sayC, ask0, toldC, List.cons_append, List.nil_append] at d
  simp -implicitDefEqProofs (disch := omega) only [go_sem, seval, c1, c2, hC, clC, callC, opC, toldC, List.cons_append, List.nil_append] at t
  refine Gf_start rfl rfl ?_
  simp -implicitDefEqProofs (disch := omega) only [go_sem, seval, c1, clC, callC, opC]
  refine wp_draw_E ?_
  simp -implicitDefEqProofs (disch := omega) only [go_sem, seval, e, show IntKind.i64.wrap 100 = 100 from rfl]
  simp -implicitDefEqProofs (disch := omega) only [go_sem, seval, d]
  simp -implicitDefEqProofs (disch := omega) only [go_sem, seval, callr26, t, c2, hC, clC, callC, opC, toldC, List.cons_append, List.nil_append]
theorem ltold_ok : Gf fns 19 [c1, .int .i64 0, .int .i64 100, .agg toldC] = some (.tup [], [c2]) := by
  have n := EncT_ok
  have t := Handle_ok
  simp -implicitDefEqProofs (disch := omega) only [go_sem, seval, sayC, ask0, toldC, List.cons_append, List.nil_append] at n
  simp -implicitDefEqProofs (disch := omega) only [go_sem, seval, c1, c2, hC, clC, callC, opC, toldC, List.cons_append, List.nil_append] at t
  refine Gf_start rfl rfl ?_
  simp -implicitDefEqProofs (disch := omega) only [go_sem, seval, c1, clC, callC, opC, toldC, n]
  simp -implicitDefEqProofs (disch := omega) only [go_sem, seval, callr9, t, c2, hC, clC, callC, opC, toldC, List.cons_append, List.nil_append]
theorem Heard_ok : Gf fns 13 [.pt (clC (.sl .ro 1 callC) 1 2 0 0 (.sl .ro 1 hC)) 0] = some (.osl 21 1 hC, []) := by
  have e2 : (SK.ro == SK.nil) = false := rfl
  have c : Gf fns 29 [.sl .ro 1 hC] = some (.osl 21 1 hC, []) := by
    refine Gf_start rfl rfl ?_
    simp -implicitDefEqProofs (disch := omega) only [go_sem, seval, hC, toldC, opC, List.cons_append, List.nil_append, e2]
  simp -implicitDefEqProofs (disch := omega) only [go_sem, seval, hC, toldC, opC, List.cons_append, List.nil_append] at c
  refine Gf_start rfl rfl ?_
  simp -implicitDefEqProofs (disch := omega) only [go_sem, seval, clC, callC, hC, toldC, opC, List.cons_append, List.nil_append, c]
theorem awake_ok : Gf fns 6 [] = some (.bool true, []) := by
  have n := CNew_ok
  have t := Tick_ok
  have s := say_ok
  have l := ltold_ok
  have h := Heard_ok
  have e := Ended_1 2 0 0 (.sl .ro 1 hC)
  simp -implicitDefEqProofs (disch := omega) only [go_sem, seval, callC, opC] at n
  simp -implicitDefEqProofs (disch := omega) only [go_sem, seval, c0, c1, clC, callC, opC] at t
  simp -implicitDefEqProofs (disch := omega) only [go_sem, seval, sayC, askC, told0, opC, List.cons_append, List.nil_append] at s
  simp -implicitDefEqProofs (disch := omega) only [go_sem, seval, c1, c2, hC, clC, callC, opC, toldC, List.cons_append, List.nil_append] at l
  simp -implicitDefEqProofs (disch := omega) only [go_sem, seval, hC, clC, callC, opC, toldC, List.cons_append, List.nil_append] at h e
  refine Gf_start rfl rfl ?_
  simp -implicitDefEqProofs (disch := omega) only [go_sem, seval, n]
  simp -implicitDefEqProofs (disch := omega) only [go_sem, seval, callr10, t]
  simp -implicitDefEqProofs (disch := omega) only [go_sem, seval, s]
  simp -implicitDefEqProofs (disch := omega) only [go_sem, seval, callr19, l]
  simp -implicitDefEqProofs (disch := omega) only [go_sem, seval, h, e]
end Go.Vm.Ytahbkkleholmaaa
