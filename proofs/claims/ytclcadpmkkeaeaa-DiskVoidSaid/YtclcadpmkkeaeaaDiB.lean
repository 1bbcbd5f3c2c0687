/- (seval) Disk: one file or two, in the machine. -/
import Derived.Test.YtclcadpmkkeaeaaDiA
set_option linter.unusedSectionVars false
set_option linter.unusedSimpArgs false
set_option linter.unusedVariables false
set_option maxHeartbeats 4000000
set_option maxRecDepth 10000
namespace Go.Vm.Ytclcadpmkkeaeaa
open Go.Proofs
def eC (n : List UInt8) (a : Bool) (s : List UInt8) (b : Bool) (s2 : List UInt8) (how : Int) : List V := [.str n, .bool a, .str s, .bool b, .str s2, .int .i64 how]
def dk (l : V) (ch : Int) (off : Bool) : List V := [l, .int .i64 (-1), .sl .nil 0 [], .int .i64 ch, .bool off]
def fA : List UInt8 := [97]
def fB : List UInt8 := [98]
theorem Cmp_ok (a b : List UInt8) : Gf fns 59 [.str a, .str b] = some (.int .i64 (cmpS a b), []) := by
  have c : Gf fns 62 [.str a, .str b] = some (.int .i64 (cmpS a b), []) := by
    refine Gf_start rfl rfl ?_
    simp -implicitDefEqProofs (disch := omega) only [go_sem, seval, go_sem]
  refine Gf_start rfl rfl ?_
  simp -implicitDefEqProofs (disch := omega) only [go_sem, seval, c]
theorem P1_ok (n : List UInt8) (a : Bool) (s : List UInt8) (b : Bool) (s2 : List UInt8) (how : Int) (x : List UInt8) : Gf fns 58 [.agg (eC n a s b s2 how), .str x] = some (.int .i64 (cmpS n x), []) := by
  refine Gf_start rfl rfl ?_
  simp -implicitDefEqProofs (disch := omega) only [go_sem, seval, eC, Cmp_ok]
theorem Bs0 (x : List UInt8) : Gf fns 57 [.sl .nil 0 [], .str x, .fn 58 []] = some (.tup [.int .i64 0, .bool false], []) := by
  refine Gf_start rfl rfl ?_
  simp -implicitDefEqProofs (disch := omega) only [go_sem, seval, ↓wp_unroll, lp57_0]
theorem BsA (a : Bool) (s : List UInt8) (b : Bool) (s2 : List UInt8) (how : Int) : Gf fns 57 [.sl .ro 1 (eC fA a s b s2 how), .str fA, .fn 58 []] = some (.tup [.int .i64 0, .bool true], []) := by
  have p := P1_ok fA a s b s2 how fA
  rw [show cmpS fA fA = 0 from rfl] at p
  simp -implicitDefEqProofs (disch := omega) only [go_sem, seval, eC, fA] at p
  refine Gf_start rfl rfl ?_
  simp -implicitDefEqProofs (disch := omega) only [go_sem, seval, eC, fA, ↓wp_unroll, lp57_0, callV_T at58, p, show Int.fdiv 1 (2 ^ 1) = 0 from rfl, show IntKind.i64.wrap 0 = 0 from rfl, show IntKind.u64.wrap 1 = 1 from rfl]
theorem BsB (a : Bool) (s : List UInt8) (b : Bool) (s2 : List UInt8) (how : Int) : Gf fns 57 [.sl .ro 1 (eC fA a s b s2 how), .str fB, .fn 58 []] = some (.tup [.int .i64 1, .bool false], []) := by
  have p := P1_ok fA a s b s2 how fB
  rw [show cmpS fA fB = -1 from rfl] at p
  simp -implicitDefEqProofs (disch := omega) only [go_sem, seval, eC, fA, fB] at p
  refine Gf_start rfl rfl ?_
  simp -implicitDefEqProofs (disch := omega) only [go_sem, seval, eC, fA, fB, ↓wp_unroll, lp57_0, callV_T at58, p, show Int.fdiv 1 (2 ^ 1) = 0 from rfl, show IntKind.i64.wrap 0 = 0 from rfl, show IntKind.i64.wrap (0 + 1) = 1 from rfl, show IntKind.u64.wrap 1 = 1 from rfl]
section
variable (ch : Int) (off : Bool) (a : Bool) (s : List UInt8) (b : Bool) (s2 : List UInt8) (how : Int)
theorem Pl0 (x : List UInt8) : Gf fns 54 [.pt (dk (.sl .nil 0 []) ch off) 0, .str x] = some (.tup [.int .i64 0, .bool false], []) := by
  refine Gf_start rfl rfl ?_
  simp -implicitDefEqProofs (disch := omega) only [go_sem, seval, dk, Bs0]
theorem PlA : Gf fns 54 [.pt (dk (.sl .ro 1 (eC fA a s b s2 how)) ch off) 0, .str fA] = some (.tup [.int .i64 0, .bool true], []) := by
  have p := BsA a s b s2 how
  simp -implicitDefEqProofs (disch := omega) only [go_sem, seval, eC, fA] at p
  refine Gf_start rfl rfl ?_
  simp -implicitDefEqProofs (disch := omega) only [go_sem, seval, dk, eC, fA, p]
theorem PlB : Gf fns 54 [.pt (dk (.sl .ro 1 (eC fA a s b s2 how)) ch off) 0, .str fB] = some (.tup [.int .i64 1, .bool false], []) := by
  have p := BsB a s b s2 how
  simp -implicitDefEqProofs (disch := omega) only [go_sem, seval, eC, fA, fB] at p
  refine Gf_start rfl rfl ?_
  simp -implicitDefEqProofs (disch := omega) only [go_sem, seval, dk, eC, fA, fB, p]
theorem Fc0 (x : List UInt8) : Gf fns 50 [.pt (dk (.sl .nil 0 []) ch off) 0, .str x] = some (.agg [.bool false, .str []], []) := by
  have p := Pl0 ch off x
  simp -implicitDefEqProofs (disch := omega) only [go_sem, seval, dk] at p
  refine Gf_start rfl rfl ?_
  simp -implicitDefEqProofs (disch := omega) only [go_sem, seval, dk, p]
theorem FcA : Gf fns 50 [.pt (dk (.sl .ro 1 (eC fA a s b s2 how)) ch off) 0, .str fA] = some (.agg [.bool a, .str s], []) := by
  have p := PlA ch off a s b s2 how
  simp -implicitDefEqProofs (disch := omega) only [go_sem, seval, dk, eC, fA] at p
  refine Gf_start rfl rfl ?_
  simp -implicitDefEqProofs (disch := omega) only [go_sem, seval, dk, eC, fA, p]
theorem FcB : Gf fns 50 [.pt (dk (.sl .ro 1 (eC fA a s b s2 how)) ch off) 0, .str fB] = some (.agg [.bool false, .str []], []) := by
  have p := PlB ch off a s b s2 how
  simp -implicitDefEqProofs (disch := omega) only [go_sem, seval, dk, eC, fA, fB] at p
  refine Gf_start rfl rfl ?_
  simp -implicitDefEqProofs (disch := omega) only [go_sem, seval, dk, eC, fA, fB, p]
theorem nmA : Gf fns 23 [.str [97]] = some (.bool true, []) := Name_ok fA (by decide)
theorem nmB : Gf fns 23 [.str [98]] = some (.bool true, []) := Name_ok fB (by decide)
theorem Dead_ok (l : V) : Gf fns 25 [.pt (dk l ch off) 0] = some (.bool off, []) := by
  refine Gf_start rfl rfl ?_
  cases off
  · simp -implicitDefEqProofs (disch := omega) only [go_sem, seval, dk]
  · simp -implicitDefEqProofs (disch := omega) only [go_sem, seval, dk]
theorem Op0 : Gf fns 36 [.pt (dk (.sl .nil 0 []) ch false) 0, .str fA, .bool false] = some (.tup [.agg [.bool false, .str []], .int .i64 0], []) := by
  have d := Dead_ok ch false (.sl .nil 0 [])
  have f := Fc0 ch false fA
  simp -implicitDefEqProofs (disch := omega) only [go_sem, seval, dk, fA] at d f
  refine Gf_start rfl rfl ?_
  simp -implicitDefEqProofs (disch := omega) only [go_sem, seval, dk, fA, d, f, nmA]
theorem OpA (must : Bool) : Gf fns 36 [.pt (dk (.sl .ro 1 (eC fA true s b s2 how)) ch false) 0, .str fA, .bool must] = some (.tup [.agg [.bool true, .str s], .int .i64 0], []) := by
  have d := Dead_ok ch false (.sl .ro 1 (eC fA true s b s2 how))
  have f := FcA ch false true s b s2 how
  simp -implicitDefEqProofs (disch := omega) only [go_sem, seval, dk, eC, fA] at d f
  refine Gf_start rfl rfl ?_
  cases must
  · simp -implicitDefEqProofs (disch := omega) only [go_sem, seval, dk, eC, fA, d, f, nmA]
  · simp -implicitDefEqProofs (disch := omega) only [go_sem, seval, dk, eC, fA, d, f, nmA]
theorem OpB : Gf fns 36 [.pt (dk (.sl .ro 1 (eC fA a s b s2 how)) ch false) 0, .str fB, .bool false] = some (.tup [.agg [.bool false, .str []], .int .i64 0], []) := by
  have d := Dead_ok ch false (.sl .ro 1 (eC fA a s b s2 how))
  have f := FcB ch false a s b s2 how
  simp -implicitDefEqProofs (disch := omega) only [go_sem, seval, dk, eC, fA, fB] at d f
  refine Gf_start rfl rfl ?_
  simp -implicitDefEqProofs (disch := omega) only [go_sem, seval, dk, eC, fA, fB, d, f, nmB]
end
section
variable (a : Bool) (s : List UInt8) (b : Bool) (s2 : List UInt8) (how : Int)
theorem Ins0 (E : List V) (hE : E.length = 6) : Gf fns 56 [.sl .nil 0 [], .int .i64 0, .sl .ro 1 E] = some (.osl 6 1 E, []) := by
  refine Gf_start rfl rfl ?_
  simp -implicitDefEqProofs (disch := omega) only [go_sem, seval, go_sem]
theorem Ins1 (E E2 : List V) (hE : E.length = 6) (hE2 : E2.length = 6) : Gf fns 56 [.osl 6 1 E, .int .i64 1, .sl .ro 1 E2] = some (.osl 6 2 (E ++ E2), []) := by
  have ht : E.take 6 = E := List.take_of_length_le (by omega)
  have h12 : (E ++ E2).take 12 = E ++ E2 := List.take_of_length_le (by rw [List.length_append]; omega)
  refine Gf_start rfl rfl ?_
  simp -implicitDefEqProofs (disch := omega) only [go_sem, seval, ht, h12]
theorem Goes0 (n : Nat) (hn : n < 100) : Gf fns 51 [.opt (dk (.sl .nil 0 []) (n : Int) false)] = some (.bool true, [.opt (dk (.sl .nil 0 []) ((n + 1 : Nat) : Int) false)]) := by
  refine Gf_start rfl rfl ?_
  simp -implicitDefEqProofs (disch := omega) only [go_sem, seval, dk, ↓wp_unroll, lp51_0]
theorem Goes1 (n : Nat) (hn : n < 100) : Gf fns 51 [.opt (dk (.osl 6 1 (eC fA a s b s2 how)) (n : Int) false)] = some (.bool true, [.opt (dk (.osl 6 1 (eC fA a s b s2 how)) ((n + 1 : Nat) : Int) false)]) := by
  refine Gf_start rfl rfl ?_
  simp -implicitDefEqProofs (disch := omega) only [go_sem, seval, dk, eC, fA, ↓wp_unroll, lp51_0]
theorem Lay0 (n : Nat) (hn : n < 100) (x : List UInt8) : Gf fns 52 [.opt (dk (.sl .nil 0 []) (n : Int) false), .str fA, .agg [.bool true, .str x], .int .i64 1] = some (.tup [], [.opt (dk (.osl 6 1 (eC fA true x false [] 1)) (n : Int) false)]) := by
  have p := Pl0 n false fA
  have i := Ins0 (eC fA false [] false [] 0) rfl
  simp -implicitDefEqProofs (disch := omega) only [go_sem, seval, dk, fA, eC] at p i
  refine Gf_start rfl rfl ?_
  simp -implicitDefEqProofs (disch := omega) only [go_sem, seval, dk, fA, p, i]
  refine wp_draw_E ?_
  simp -implicitDefEqProofs (disch := omega) only [go_sem, seval, eC, fA, splice, List.take_succ_cons, List.take_zero, List.drop_succ_cons, List.drop_zero, List.cons_append, List.nil_append]
theorem LayA (n : Nat) (hn : n < 100) (x : List UInt8) : Gf fns 52 [.opt (dk (.osl 6 1 (eC fA a s b s2 how)) (n : Int) false), .str fA, .agg [.bool true, .str x], .int .i64 1] = some (.tup [], [.opt (dk (.osl 6 1 (eC fA true x b s2 1)) (n : Int) false)]) := by
  have p := PlA n false a s b s2 how
  simp -implicitDefEqProofs (disch := omega) only [go_sem, seval, dk, fA, eC] at p
  refine Gf_start rfl rfl ?_
  simp -implicitDefEqProofs (disch := omega) only [go_sem, seval, dk, fA, eC, p]
  refine wp_draw_E ?_
  simp -implicitDefEqProofs (disch := omega) only [go_sem, seval, splice, List.take_succ_cons, List.take_zero, List.drop_succ_cons, List.drop_zero, List.cons_append, List.nil_append]
theorem LayB (n : Nat) (hn : n < 100) (x : List UInt8) : Gf fns 52 [.opt (dk (.osl 6 1 (eC fA a s b s2 how)) (n : Int) false), .str fB, .agg [.bool true, .str x], .int .i64 1] = some (.tup [], [.opt (dk (.osl 6 2 (eC fA a s b s2 how ++ eC fB true x false [] 1)) (n : Int) false)]) := by
  have p := PlB n false a s b s2 how
  have i := Ins1 (eC fA a s b s2 how) (eC fB false [] false [] 0) rfl rfl
  simp -implicitDefEqProofs (disch := omega) only [go_sem, seval, dk, fA, fB, eC] at p i
  refine Gf_start rfl rfl ?_
  simp -implicitDefEqProofs (disch := omega) only [go_sem, seval, dk, fA, fB, eC, p, i]
  refine wp_draw_E ?_
  simp -implicitDefEqProofs (disch := omega) only [go_sem, seval, splice, List.take_succ_cons, List.take_zero, List.drop_succ_cons, List.drop_zero, List.cons_append, List.nil_append]
end
end Go.Vm.Ytclcadpmkkeaeaa
