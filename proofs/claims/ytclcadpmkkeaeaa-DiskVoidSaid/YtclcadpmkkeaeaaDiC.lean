/- (seval) Disk: files are written and read, the power fails, in the machine. -/
import Derived.Test.YtclcadpmkkeaeaaDiB
set_option linter.unusedSectionVars false
set_option linter.unusedSimpArgs false
set_option linter.unusedVariables false
set_option maxHeartbeats 4000000
set_option maxRecDepth 10000
namespace Go.Vm.Ytclcadpmkkeaeaa
open Go.Proofs
theorem Grow0 (x : UInt8) : Gf fns 40 [.opt (dk (.sl .nil 0 []) 0 false), .str fA, .agg [.bool false, .str []], .str [x]] = some (.int .i64 0, [.opt (dk (.osl 6 1 (eC fA true [x] false [] 1)) 1 false)]) := by
  have g := Goes0 0 (by omega)
  have l := Lay0 1 (by omega) [x]
  have z0 : ((0 : Nat) : Int) = 0 := rfl
  have z1 : ((0 + 1 : Nat) : Int) = 1 := rfl
  have z2 : ((1 : Nat) : Int) = 1 := rfl
  rw [z0, z1] at g
  rw [z2] at l
  simp -implicitDefEqProofs (disch := omega) only [go_sem, seval, dk, fA, eC] at g l
  refine Gf_start rfl rfl ?_
  simp -implicitDefEqProofs (disch := omega) only [go_sem, seval, dk, fA, eC, List.length_cons, List.length_nil, show IntKind.i64.wrap 1 = 1 from rfl]
  refine wp_draw_E ?_
  simp -implicitDefEqProofs (disch := omega) only [go_sem, seval, go_sem]
  simp -implicitDefEqProofs (disch := omega) only [go_sem, seval, callr51, g]
  simp -implicitDefEqProofs (disch := omega) only [go_sem, seval, callr52, l]
theorem GrowA (s : List UInt8) (x : UInt8) (hs : s.length = 1) : Gf fns 40 [.opt (dk (.osl 6 1 (eC fA true s false [] 1)) 1 false), .str fA, .agg [.bool true, .str s], .str [x]] = some (.int .i64 0, [.opt (dk (.osl 6 1 (eC fA true [x] false [] 1)) 2 false)]) := by
  have g := Goes1 true s false [] 1 1 (by omega)
  have l := LayA true s false [] 1 2 (by omega) [x]
  have z2 : ((1 : Nat) : Int) = 1 := rfl
  have z3 : ((1 + 1 : Nat) : Int) = 2 := rfl
  have z4 : ((2 : Nat) : Int) = 2 := rfl
  rw [z2, z3] at g
  rw [z4] at l
  simp -implicitDefEqProofs (disch := omega) only [go_sem, seval, dk, fA, eC] at g l
  refine Gf_start rfl rfl ?_
  simp -implicitDefEqProofs (disch := omega) only [go_sem, seval, dk, fA, eC, List.length_cons, List.length_nil, hs, show IntKind.i64.wrap 0 = 0 from rfl]
  refine wp_draw_E ?_
  simp -implicitDefEqProofs (disch := omega) only [go_sem, seval, go_sem]
  simp -implicitDefEqProofs (disch := omega) only [go_sem, seval, callr51, g]
  simp -implicitDefEqProofs (disch := omega) only [go_sem, seval, callr52, l]
theorem GrowB (s : List UInt8) (x : UInt8) : Gf fns 40 [.opt (dk (.osl 6 1 (eC fA true s false [] 1)) 1 false), .str fB, .agg [.bool false, .str []], .str [x]] = some (.int .i64 0, [.opt (dk (.osl 6 2 (eC fA true s false [] 1 ++ eC fB true [x] false [] 1)) 2 false)]) := by
  have g := Goes1 true s false [] 1 1 (by omega)
  have l := LayB true s false [] 1 2 (by omega) [x]
  have z2 : ((1 : Nat) : Int) = 1 := rfl
  have z3 : ((1 + 1 : Nat) : Int) = 2 := rfl
  have z4 : ((2 : Nat) : Int) = 2 := rfl
  rw [z2, z3] at g
  rw [z4] at l
  simp -implicitDefEqProofs (disch := omega) only [go_sem, seval, dk, fA, fB, eC] at g l
  refine Gf_start rfl rfl ?_
  simp -implicitDefEqProofs (disch := omega) only [go_sem, seval, dk, fA, fB, eC, List.length_cons, List.length_nil, show IntKind.i64.wrap 1 = 1 from rfl]
  refine wp_draw_E ?_
  simp -implicitDefEqProofs (disch := omega) only [go_sem, seval, go_sem]
  simp -implicitDefEqProofs (disch := omega) only [go_sem, seval, callr51, g]
  simp -implicitDefEqProofs (disch := omega) only [go_sem, seval, callr52, l]
theorem Write0 (x : UInt8) : Gf fns 21 [.opt (dk (.sl .nil 0 []) 0 false), .str fA, .str [x]] = some (.int .i64 0, [.opt (dk (.osl 6 1 (eC fA true [x] false [] 1)) 1 false)]) := by
  have o := Op0 0
  have g := Grow0 x
  simp -implicitDefEqProofs (disch := omega) only [go_sem, seval, dk, fA, eC] at o g
  refine Gf_start rfl rfl ?_
  simp -implicitDefEqProofs (disch := omega) only [go_sem, seval, dk, fA, eC, o]
  simp -implicitDefEqProofs (disch := omega) only [go_sem, seval, callr40, g]
theorem WriteA (s : List UInt8) (x : UInt8) (hs : s.length = 1) : Gf fns 21 [.opt (dk (.osl 6 1 (eC fA true s false [] 1)) 1 false), .str fA, .str [x]] = some (.int .i64 0, [.opt (dk (.osl 6 1 (eC fA true [x] false [] 1)) 2 false)]) := by
  have o := OpA 1 s false [] 1 false
  have g := GrowA s x hs
  simp -implicitDefEqProofs (disch := omega) only [go_sem, seval, dk, fA, eC] at o g
  refine Gf_start rfl rfl ?_
  simp -implicitDefEqProofs (disch := omega) only [go_sem, seval, dk, fA, eC, o]
  simp -implicitDefEqProofs (disch := omega) only [go_sem, seval, callr40, g]
theorem Append0 (x : UInt8) : Gf fns 37 [.opt (dk (.sl .nil 0 []) 0 false), .str fA, .str [x]] = some (.int .i64 0, [.opt (dk (.osl 6 1 (eC fA true [x] false [] 1)) 1 false)]) := by
  have o := Op0 0
  have g := Grow0 x
  simp -implicitDefEqProofs (disch := omega) only [go_sem, seval, dk, fA, eC] at o g
  refine Gf_start rfl rfl ?_
  simp -implicitDefEqProofs (disch := omega) only [go_sem, seval, dk, fA, eC, o, List.nil_append]
  simp -implicitDefEqProofs (disch := omega) only [go_sem, seval, callr40, g]
theorem AppendB (s : List UInt8) (x : UInt8) : Gf fns 37 [.opt (dk (.osl 6 1 (eC fA true s false [] 1)) 1 false), .str fB, .str [x]] = some (.int .i64 0, [.opt (dk (.osl 6 2 (eC fA true s false [] 1 ++ eC fB true [x] false [] 1)) 2 false)]) := by
  have o := OpB 1 true s false [] 1
  have g := GrowB s x
  simp -implicitDefEqProofs (disch := omega) only [go_sem, seval, dk, fA, fB, eC] at o g
  refine Gf_start rfl rfl ?_
  simp -implicitDefEqProofs (disch := omega) only [go_sem, seval, dk, fA, fB, eC, o, List.nil_append]
  simp -implicitDefEqProofs (disch := omega) only [go_sem, seval, callr40, g]
theorem ReadA (ch : Int) (s : List UInt8) : Gf fns 13 [.pt (dk (.sl .ro 1 (eC fA true s false [] 1)) ch false) 0, .str fA] = some (.tup [.str s, .int .i64 0], []) := by
  have o := OpA ch s false [] 1 true
  simp -implicitDefEqProofs (disch := omega) only [go_sem, seval, dk, fA, eC] at o
  refine Gf_start rfl rfl ?_
  simp -implicitDefEqProofs (disch := omega) only [go_sem, seval, dk, fA, eC, o]
theorem CloneA (s : List UInt8) : Gf fns 22 [.pt (dk (.sl .ro 1 (eC fA true s false [] 1)) 1 false) 0] = some (.opt (dk (.osl 6 1 (eC fA true s false [] 1)) 1 false), []) := by
  have e2 : (SK.ro == SK.nil) = false := rfl
  have c1 : Gf fns 41 [.sl .ro 1 (eC fA true s false [] 1)] = some (.osl 6 1 (eC fA true s false [] 1), []) := by
    refine Gf_start rfl rfl ?_
    simp -implicitDefEqProofs (disch := omega) only [go_sem, seval, eC, fA, e2]
  have c2 : Gf fns 39 [.sl .nil 0 []] = some (.sl .nil 0 [], []) := by
    refine Gf_start rfl rfl ?_
    simp -implicitDefEqProofs (disch := omega) only [go_sem, seval, go_sem]
  simp -implicitDefEqProofs (disch := omega) only [go_sem, seval, eC, fA] at c1
  refine Gf_start rfl rfl ?_
  simp -implicitDefEqProofs (disch := omega) only [go_sem, seval, dk, fA, eC]
  refine wp_draw_E ?_
  simp -implicitDefEqProofs (disch := omega) only [go_sem, seval, c1, c2]
theorem New_ok : Gf fns 20 [] = some (.opt (dk (.sl .nil 0 []) 0 false), []) := by
  refine Gf_start rfl rfl ?_
  simp -implicitDefEqProofs (disch := omega) only [go_sem, seval, dk]
theorem NamesB (ch : Int) (off : Bool) (s : List UInt8) (s2 : List UInt8) : Gf fns 27 [.pt (dk (.sl .ro 1 (eC fB true s true s2 0)) ch off) 0] = some (.osl 1 1 [.str fB], []) := by
  refine Gf_start rfl rfl ?_
  simp -implicitDefEqProofs (disch := omega) only [go_sem, seval, dk, eC, fB, ↓wp_unroll, lp27_0]
theorem Up_ok (l : List V) (ch : Int) (hl : l.length = 6) : Gf fns 12 [.opt (dk (.osl 6 1 l) ch true)] = some (.bool true, [.opt (dk (.osl 6 1 l) ch false)]) := by
  have ht : l.take 6 = l := List.take_of_length_le (by omega)
  refine Gf_start rfl rfl ?_
  simp -implicitDefEqProofs (disch := omega) only [go_sem, seval, dk, ht, ite_self]
end Go.Vm.Ytclcadpmkkeaeaa
