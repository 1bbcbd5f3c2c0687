/- (seval) Sparse trees: what Verify tells of a proof with a leaf alone, in the machine. -/
import Derived.Test.YthfcgllahllkkaaSmtA
import Derived.Test.YthfcgllahllkkaaShaF
set_option linter.unusedSectionVars false
set_option linter.unusedSimpArgs false
set_option linter.unusedVariables false
set_option maxHeartbeats 4000000
set_option maxRecDepth 10000
namespace Go.Vm.Ythfcgllahllkkaa
open Go.Proofs
theorem Empty_ok : Gf fns 18 [] = some (.str [0, 0, 0, 0, 0, 0, 0, 0, 0, 0, 0, 0, 0, 0, 0, 0, 0, 0, 0, 0, 0, 0, 0, 0, 0, 0, 0, 0, 0, 0, 0, 0], []) :=
  Gf_start rfl rfl (of_closed (V.str [0, 0, 0, 0, 0, 0, 0, 0, 0, 0, 0, 0, 0, 0, 0, 0, 0, 0, 0, 0, 0, 0, 0, 0, 0, 0, 0, 0, 0, 0, 0, 0], ([] : List V)) (by kernel_rfl))
theorem IF_ok : Gf fns 41 [.sl .nil 0 [], .fn 28 []] = some (.int .i64 (-1), []) := by
  refine Gf_start rfl rfl ?_
  simp -implicitDefEqProofs (disch := omega) only [go_sem, seval, go_sem]
  simp -implicitDefEqProofs (disch := omega) only [go_sem, seval, ↓wp_unroll, lp41_0]
theorem CF_ok : Gf fns 27 [.sl .nil 0 [], .fn 28 []] = some (.bool false, []) := by
  have t := IF_ok
  refine Gf_start rfl rfl ?_
  simp -implicitDefEqProofs (disch := omega) only [go_sem, seval, t]
theorem Verify_has (root k v : List UInt8) (hk : k.length ≤ 1000000) (hv : v.length ≤ 1000000) : Gf fns 20 [.str root, .str k, .str v, .bool true, .agg [.sl .nil 0 [], .bool true, .str (pathS k), .str (valS v)]] = some (.bool (decide (leafS (pathS k) (valS v) = root)), []) := by
  have e := Empty_ok
  have c := CF_ok
  have t1 := Path_ok k hk
  have t2 := Value_ok v hv
  have lp : (pathS k).length = 32 := by unfold pathS; exact sha_len _
  have lv : (valS v).length = 32 := by unfold valS; exact sha_len _
  have ll : (leafS (pathS k) (valS v)).length = 32 := by unfold leafS; exact sha_len _
  have t3 := LeafHash_ok (pathS k) (valS v) (by omega) (by omega)
  have t4 := Same_ok (leafS (pathS k) (valS v)) root (by omega)
  refine Gf_start rfl rfl ?_
  simp -implicitDefEqProofs (disch := omega) only [go_sem, seval, e, c, t1, t2, t3, t4, lp, lv]
  refine wp_draw_E ?_
  simp -implicitDefEqProofs (disch := omega) only [go_sem, seval, e, c, t1, t2, t3, t4, lp, lv, ↓wp_unroll, lp20_0, lp20_1]
theorem Verify_other (root k v p w : List UInt8) (hk : k.length ≤ 1000000) (hv : v.length ≤ 1000000) (lp2 : p.length = 32) (lw : w.length = 32) (hn : p ≠ pathS k) : Gf fns 20 [.str root, .str k, .str v, .bool false, .agg [.sl .nil 0 [], .bool true, .str p, .str w]] = some (.bool (decide (leafS p w = root)), []) := by
  have e := Empty_ok
  have c := CF_ok
  have t1 := Path_ok k hk
  have t2 := Value_ok v hv
  have lp : (pathS k).length = 32 := by unfold pathS; exact sha_len _
  have lv : (valS v).length = 32 := by unfold valS; exact sha_len _
  have ll : (leafS p w).length = 32 := by unfold leafS; exact sha_len _
  have t3 := LeafHash_ok p w (by omega) (by omega)
  have t4 := Same_ok (leafS p w) root (by omega)
  refine Gf_start rfl rfl ?_
  simp -implicitDefEqProofs (disch := omega) only [go_sem, seval, e, c, t1, t2, t3, t4, lp, lv, lp2, lw, hn]
  refine wp_draw_E ?_
  simp -implicitDefEqProofs (disch := omega) only [go_sem, seval, e, c, t1, t2, t3, t4, lp, lv, lp2, lw, hn, ↓wp_unroll, lp20_0, lp20_1]
theorem Verify_val (root k v w : List UInt8) (hk : k.length ≤ 1000000) (hv : v.length ≤ 1000000) (lw : w.length = 32) (hn : w ≠ valS v) : Gf fns 20 [.str root, .str k, .str v, .bool true, .agg [.sl .nil 0 [], .bool true, .str (pathS k), .str w]] = some (.bool false, []) := by
  have e := Empty_ok
  have c := CF_ok
  have t1 := Path_ok k hk
  have t2 := Value_ok v hv
  have lp : (pathS k).length = 32 := by unfold pathS; exact sha_len _
  have lv : (valS v).length = 32 := by unfold valS; exact sha_len _
  have ll : (leafS (pathS k) w).length = 32 := by unfold leafS; exact sha_len _
  have t3 := LeafHash_ok (pathS k) w (by omega) (by omega)
  have t4 := Same_ok (leafS (pathS k) w) root (by omega)
  refine Gf_start rfl rfl ?_
  simp -implicitDefEqProofs (disch := omega) only [go_sem, seval, e, c, t1, t2, t3, t4, lp, lv, lw, hn]
  refine wp_draw_E ?_
  simp -implicitDefEqProofs (disch := omega) only [go_sem, seval, e, c, t1, t2, t3, t4, lp, lv, lw, hn, ↓wp_unroll, lp20_0, lp20_1]
end Go.Vm.Ythfcgllahllkkaa
