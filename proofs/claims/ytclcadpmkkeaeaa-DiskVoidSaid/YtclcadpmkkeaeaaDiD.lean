/- (seval) Disk: the power fails; a disk that is none, in the machine. -/
import Derived.Test.YtclcadpmkkeaeaaDiC
set_option linter.unusedSectionVars false
set_option linter.unusedSimpArgs false
set_option linter.unusedVariables false
set_option maxHeartbeats 4000000
set_option maxRecDepth 10000
namespace Go.Vm.Ytclcadpmkkeaeaa
open Go.Proofs
theorem LeftA (x : UInt8) : Gf fns 35 [.agg (eC fA true [x] false [] 1), .bool false, .opt [.int .i64 0]] = some (.agg [.bool false, .str []], [.opt [.int .i64 0]]) := by
  refine Gf_start rfl rfl ?_
  simp -implicitDefEqProofs (disch := omega) only [go_sem, seval, eC, fA]
  refine wp_draw_E ?_
  simp -implicitDefEqProofs (disch := omega) only [go_sem, seval, List.length_cons, List.length_nil, show max (0 : Int) 0 = 0 from rfl, show min (0 : Int) 1 = 0 from rfl]
theorem LeftB (x : UInt8) : Gf fns 35 [.agg (eC fB true [x] false [] 1), .bool true, .opt [.int .i64 0]] = some (.agg [.bool true, .str [x]], [.opt [.int .i64 0]]) := by
  refine Gf_start rfl rfl ?_
  simp -implicitDefEqProofs (disch := omega) only [go_sem, seval, eC, fB]
theorem T1_ok (n : List UInt8) (a : Bool) (s : List UInt8) (b : Bool) (s2 : List UInt8) (how : Int) : Gf fns 49 [.agg (eC n a s b s2 how)] = some (.bool (!a && !b), []) := by
  refine Gf_start rfl rfl ?_
  cases a
  · cases b
    · simp -implicitDefEqProofs (disch := omega) only [go_sem, seval, eC]
    · simp -implicitDefEqProofs (disch := omega) only [go_sem, seval, eC]
  · simp -implicitDefEqProofs (disch := omega) only [go_sem, seval, eC]
theorem Ix_ok (y : UInt8) : Gf fns 53 [.sl .ro 2 (eC fA false [] false [] 0 ++ eC fB true [y] true [y] 0), .fn 49 []] = some (.int .i64 0, []) := by
  have t := T1_ok fA false [] false [] 0
  simp -implicitDefEqProofs (disch := omega) only [go_sem, seval, eC, fA] at t
  refine Gf_start rfl rfl ?_
  simp -implicitDefEqProofs (disch := omega) only [go_sem, seval, eC, fA, fB, ↓wp_unroll, lp53_0, callV_T at49, t]
theorem Del_ok (y : UInt8) : Gf fns 48 [.osl 6 2 (eC fA false [] false [] 0 ++ eC fB true [y] true [y] 0), .fn 49 []] = some (.osl 6 1 (eC fB true [y] true [y] 0), []) := by
  have i := Ix_ok y
  have t := T1_ok fB true [y] true [y] 0
  simp -implicitDefEqProofs (disch := omega) only [go_sem, seval, eC, fA, fB] at i t
  refine Gf_start rfl rfl ?_
  simp -implicitDefEqProofs (disch := omega) only [go_sem, seval, eC, fA, fB, i, ↓wp_unroll, lp48_0, callV_T at49, t, splice, List.take_succ_cons, List.take_zero, List.drop_succ_cons, List.drop_zero, List.cons_append, List.nil_append, show IntKind.i64.wrap 1 = 1 from rfl, show IntKind.i64.wrap 2 = 2 from rfl, show IntKind.i64.wrap (0 + 1) = 1 from rfl]
theorem Tidy_ok (y : UInt8) : Gf fns 33 [.opt (dk (.osl 6 2 (eC fA false [] false [] 0 ++ eC fB true [y] true [y] 0)) 2 false)] = some (.tup [], [.opt (dk (.osl 6 1 (eC fB true [y] true [y] 0)) 2 false)]) := by
  have d := Del_ok y
  simp -implicitDefEqProofs (disch := omega) only [go_sem, seval, eC, fA, fB] at d
  refine Gf_start rfl rfl ?_
  simp -implicitDefEqProofs (disch := omega) only [go_sem, seval, dk, eC, fA, fB, d]
theorem Crash_ok (x y : UInt8) : Gf fns 11 [.opt (dk (.osl 6 2 (eC fA true [x] false [] 1 ++ eC fB true [y] false [] 1)) 2 false), .int .i64 2, .int .i64 0] = some (.tup [], [.opt (dk (.osl 6 1 (eC fB true [y] true [y] 0)) 2 true)]) := by
  have d := Dead_ok 2 false (.sl .ro 2 (eC fA true [x] false [] 1 ++ eC fB true [y] false [] 1))
  have l1 := LeftA x
  have l2 := LeftB y
  have t := Tidy_ok y
  simp -implicitDefEqProofs (disch := omega) only [go_sem, seval, dk, eC, fA, fB] at d l1 l2 t
  refine Gf_start rfl rfl ?_
  simp -implicitDefEqProofs (disch := omega) only [go_sem, seval, dk, eC, fA, fB, d, ↓wp_unroll, lp11_0]
  refine wp_draw_E ?_
  simp -implicitDefEqProofs (disch := omega) only [go_sem, seval, callV_T at35, l1, show Int.fdiv 2 (2 ^ 0) = 2 from rfl, show IntKind.i64.wrap 2 = 2 from rfl, show Go.bits .and .i64 2 1 = 0 from rfl]
  refine wp_draw_E ?_
  simp -implicitDefEqProofs (disch := omega) only [go_sem, seval, splice, List.take_succ_cons, List.take_zero, List.drop_succ_cons, List.drop_zero, List.cons_append, List.nil_append, ↓wp_unroll, lp11_0, show IntKind.i64.wrap 1 = 1 from rfl, show IntKind.i64.wrap (0 + 1) = 1 from rfl]
  refine wp_draw_E ?_
  simp -implicitDefEqProofs (disch := omega) only [go_sem, seval, callV_T at35, l2, show Int.fdiv 2 (2 ^ 1) = 1 from rfl, show IntKind.i64.wrap 1 = 1 from rfl, show Go.bits .and .i64 1 1 = 1 from rfl]
  refine wp_draw_E ?_
  simp -implicitDefEqProofs (disch := omega) only [go_sem, seval, splice, List.take_succ_cons, List.take_zero, List.drop_succ_cons, List.drop_zero, List.cons_append, List.nil_append, ↓wp_unroll, lp11_0, show IntKind.i64.wrap 2 = 2 from rfl, show IntKind.i64.wrap (1 + 1) = 2 from rfl]
  simp -implicitDefEqProofs (disch := omega) only [go_sem, seval, callr33, t]
theorem awake_ok : Gf fns 15 [] = some (.bool true, []) := by
  have n := New_ok
  have a := Append0 120
  have b := AppendB [120] 121
  have c := Crash_ok 120 121
  have u := Up_ok (eC fB true [121] true [121] 0) 2 rfl
  have l := NamesB 2 false [121] [121]
  simp -implicitDefEqProofs (disch := omega) only [go_sem, seval, dk, eC, fA, fB] at n a b c u l
  refine Gf_start rfl rfl ?_
  simp -implicitDefEqProofs (disch := omega) only [go_sem, seval, n, callr37, a]
  simp -implicitDefEqProofs (disch := omega) only [go_sem, seval, callr37, b]
  simp -implicitDefEqProofs (disch := omega) only [go_sem, seval, callr11, c]
  simp -implicitDefEqProofs (disch := omega) only [go_sem, seval, callr12, u, l]
theorem Dead_nil : Gf fns 25 [.nilp] = some (.bool true, []) := by
  refine Gf_start rfl rfl ?_
  simp -implicitDefEqProofs (disch := omega) only [go_sem, seval, go_sem]
theorem Room_nil (n : Int) : Gf fns 18 [.nilp, .int .i64 n] = some (.tup [], [.nilp]) := by
  refine Gf_start rfl rfl ?_
  simp -implicitDefEqProofs (disch := omega) only [go_sem, seval, go_sem]
theorem Plan_nil (c : List V) : Gf fns 19 [.nilp, .sl .ro 1 c] = some (.tup [], [.nilp]) := by
  refine Gf_start rfl rfl ?_
  simp -implicitDefEqProofs (disch := omega) only [go_sem, seval, go_sem]
theorem Crash_nil (n m : Int) : Gf fns 11 [.nilp, .int .i64 n, .int .i64 m] = some (.tup [], [.nilp]) := by
  refine Gf_start rfl rfl ?_
  simp -implicitDefEqProofs (disch := omega) only [go_sem, seval, Dead_nil]
theorem Open_nil (s : List UInt8) (b : Bool) : Gf fns 36 [.nilp, .str s, .bool b] = some (.tup [.agg [.bool false, .str []], .int .i64 7], []) := by
  refine Gf_start rfl rfl ?_
  simp -implicitDefEqProofs (disch := omega) only [go_sem, seval, Dead_nil]
theorem Read_nil (s : List UInt8) : Gf fns 13 [.nilp, .str s] = some (.tup [.str [], .int .i64 7], []) := by
  refine Gf_start rfl rfl ?_
  simp -implicitDefEqProofs (disch := omega) only [go_sem, seval, Open_nil]
theorem Write_nil (s x : List UInt8) : Gf fns 21 [.nilp, .str s, .str x] = some (.int .i64 7, [.nilp]) := by
  refine Gf_start rfl rfl ?_
  simp -implicitDefEqProofs (disch := omega) only [go_sem, seval, Open_nil]
theorem Append_nil (s x : List UInt8) : Gf fns 37 [.nilp, .str s, .str x] = some (.int .i64 7, [.nilp]) := by
  refine Gf_start rfl rfl ?_
  simp -implicitDefEqProofs (disch := omega) only [go_sem, seval, Open_nil]
theorem Move_nil (s x : List UInt8) : Gf fns 42 [.nilp, .str s, .str x] = some (.int .i64 7, [.nilp]) := by
  refine Gf_start rfl rfl ?_
  simp -implicitDefEqProofs (disch := omega) only [go_sem, seval, Open_nil]
theorem Remove_nil (s : List UInt8) : Gf fns 43 [.nilp, .str s] = some (.int .i64 7, [.nilp]) := by
  refine Gf_start rfl rfl ?_
  simp -implicitDefEqProofs (disch := omega) only [go_sem, seval, Open_nil]
theorem Truncate_nil (s : List UInt8) (n : Int) : Gf fns 44 [.nilp, .str s, .int .i64 n] = some (.int .i64 7, [.nilp]) := by
  refine Gf_start rfl rfl ?_
  simp -implicitDefEqProofs (disch := omega) only [go_sem, seval, Open_nil]
theorem Sync_nil : Gf fns 8 [.nilp] = some (.int .i64 7, [.nilp]) := by
  refine Gf_start rfl rfl ?_
  simp -implicitDefEqProofs (disch := omega) only [go_sem, seval, Dead_nil]
theorem Up_nil : Gf fns 12 [.nilp] = some (.bool false, [.nilp]) := by
  refine Gf_start rfl rfl ?_
  simp -implicitDefEqProofs (disch := omega) only [go_sem, seval, go_sem]
theorem Names_nil : Gf fns 27 [.nilp] = some (.sl .nil 0 [], []) := by
  refine Gf_start rfl rfl ?_
  simp -implicitDefEqProofs (disch := omega) only [go_sem, seval, go_sem]
theorem Used_nil : Gf fns 17 [.nilp] = some (.int .i64 0, []) := by
  refine Gf_start rfl rfl ?_
  simp -implicitDefEqProofs (disch := omega) only [go_sem, seval, go_sem]
theorem Changes_nil : Gf fns 28 [.nilp] = some (.int .i64 0, []) := by
  refine Gf_start rfl rfl ?_
  simp -implicitDefEqProofs (disch := omega) only [go_sem, seval, go_sem]
theorem Loose_nil : Gf fns 29 [.nilp] = some (.int .i64 0, []) := by
  refine Gf_start rfl rfl ?_
  simp -implicitDefEqProofs (disch := omega) only [go_sem, seval, go_sem]
theorem Clone_nil : Gf fns 22 [.nilp] = some (.nilp, []) := by
  refine Gf_start rfl rfl ?_
  simp -implicitDefEqProofs (disch := omega) only [go_sem, seval, go_sem]
theorem few_ok (s : List UInt8) : Gf fns 31 [.str s] = some (.str (if 50 < s.length then s.take 50 else s), []) := by
  refine Gf_start rfl rfl ?_
  by_cases h : 50 < s.length
  · simp -implicitDefEqProofs (disch := omega) only [go_sem, seval, h]
  · simp -implicitDefEqProofs (disch := omega) only [go_sem, seval, h]
structure Act where
  k : Int
  n : List UInt8
  t : List UInt8
  s : List UInt8
  m : Int
  f1 : Int
  f2 : Int
  f3 : Int
def Act.v (a : Act) : List V := [.int .i64 a.k, .str a.n, .str a.t, .str a.s, .int .i64 a.m, .int .i64 a.f1, .int .i64 a.f2, .int .i64 a.f3]
theorem change_nil (a : Act) : Gf fns 26 [.nilp, .agg a.v] = some (.int .i64 7, [.nilp]) := by
  have fw := few_ok a.s
  refine Gf_start rfl rfl ?_
  by_cases c1 : a.k = 1
  · simp -implicitDefEqProofs (disch := omega) only [go_sem, seval, Act.v, c1]
    refine wp_draw_E ?_
    simp -implicitDefEqProofs (disch := omega) only [go_sem, seval, fw, callV_T at21, Write_nil]
  · by_cases c2 : a.k = 2
    · simp -implicitDefEqProofs (disch := omega) only [go_sem, seval, Act.v, c1, c2, callr42, Move_nil]
    · by_cases c3 : a.k = 3
      · simp -implicitDefEqProofs (disch := omega) only [go_sem, seval, Act.v, c1, c2, c3, callr43, Remove_nil]
      · by_cases c4 : a.k = 4
        · simp -implicitDefEqProofs (disch := omega) only [go_sem, seval, Act.v, c1, c2, c3, c4, callr44, Truncate_nil]
        · simp -implicitDefEqProofs (disch := omega) only [go_sem, seval, Act.v, c1, c2, c3, c4]
          refine wp_draw_E ?_
          simp -implicitDefEqProofs (disch := omega) only [go_sem, seval, fw, callV_T at37, Append_nil]
theorem diskVoid_law (s : List UInt8) (hs : s.length ≤ 140737488355328) (a : Act) : fnA (tabW fns) [.bor, .bor] ir5 [.str s, .agg a.v] (fun q => q = (.bool true, [])) := by
  have n := New_ok
  have w := Write0 49
  have c := CloneA [49]
  have w2 := WriteA [49] 50 rfl
  have r := ReadA 1 [49]
  have ch := change_nil a
  have nm := Name_ok s hs
  have rn := RName_ok s hs
  simp -implicitDefEqProofs (disch := omega) only [go_sem, seval, dk, eC, fA, fB] at n w c w2 r
  simp -implicitDefEqProofs (disch := omega) only [go_sem, seval, Act.v] at ch
  refine fnA_start rfl ?_
  simp -implicitDefEqProofs (disch := omega) only [go_sem, seval, Act.v, callr18, Room_nil, callr19, Plan_nil]
  simp -implicitDefEqProofs (disch := omega) only [go_sem, seval, callr11, Crash_nil, Read_nil, n]
  simp -implicitDefEqProofs (disch := omega) only [go_sem, seval, callr21, w, c]
  simp -implicitDefEqProofs (disch := omega) only [go_sem, seval, callr21, w2, r]
  simp -implicitDefEqProofs (disch := omega) only [go_sem, seval, awake_ok, nm, rn, Dead_nil, callr12, Up_nil, callr8, Sync_nil, callr26, ch, Names_nil, Used_nil, Changes_nil, Loose_nil, Clone_nil]
theorem tAct : tysOf Try.prog 34 = some [3, 9, 9, 9, 3, 24] := by kernel_rfl
theorem tFall : tysOf Try.prog 24 = some [3, 3, 3] := by kernel_rfl
theorem uInt : Try.prog.underlying 3 = some (.int .i64) := by kernel_rfl
theorem uStr : Try.prog.underlying 9 = some .string := by kernel_rfl
theorem diskVoid_main (xs : List V) (h : FitsA Try.prog 8 [9, 34] xs) : fnA (tabW fns) ([9, 34].map fun _ => Mode.bor) ir5 xs (fun p => p = (.bool true, [])) := by
  have := reach_lt
  obtain ⟨x, ys, rfl, h1, h⟩ := fitsA_s h
  obtain ⟨y, zs, rfl, h2, h⟩ := fitsA_s h
  obtain rfl := fitsA_0 h
  obtain ⟨s, rfl, hs⟩ := fit_str (d := 7) uStr h1
  obtain ⟨v1, rfl, g1⟩ := fit_struct (d := 7) tAct h2
  obtain ⟨a1, b1, rfl, f1, a2, b2, rfl, f2, a3, b3, rfl, f3, a4, b4, rfl, f4, a5, b5, rfl, f5, a6, b6, rfl, f6, rfl⟩ := g1
  obtain ⟨x1, rfl, _⟩ := fits_int uInt f1
  obtain ⟨x2, rfl, _⟩ := fits_str uStr f2
  obtain ⟨x3, rfl, _⟩ := fits_str uStr f3
  obtain ⟨x4, rfl, _⟩ := fits_str uStr f4
  obtain ⟨x5, rfl, _⟩ := fits_int uInt f5
  obtain ⟨c1, d1, rfl, e1, c2, d2, rfl, e2, c3, d3, rfl, e3, rfl⟩ := fits_struct tFall f6
  obtain ⟨y1, rfl, _⟩ := fits_int uInt e1
  obtain ⟨y2, rfl, _⟩ := fits_int uInt e2
  obtain ⟨y3, rfl, _⟩ := fits_int uInt e3
  exact diskVoid_law s (by omega) ⟨x1, x2, x3, x4, x5, y1, y2, y3⟩
end Go.Vm.Ytclcadpmkkeaeaa
