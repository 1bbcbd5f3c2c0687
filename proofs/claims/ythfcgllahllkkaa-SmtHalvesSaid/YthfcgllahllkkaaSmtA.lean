/- (seval) Sparse trees: digests, a tree with one leaf, in the machine. -/
import Derived.Test.YthfcgllahllkkaaShaT
import Derived.Test.YthfcgllahllkkaaSmtP
set_option linter.unusedSectionVars false
set_option linter.unusedSimpArgs false
set_option linter.unusedVariables false
set_option maxHeartbeats 4000000
set_option maxRecDepth 10000
namespace Go.Vm
def pathS (k : List UInt8) : List UInt8 := sha (tagB 80 [k])
def valS (v : List UInt8) : List UInt8 := sha (tagB 86 [v])
def leafS (p v : List UInt8) : List UInt8 := sha (tagB 76 [p, v])
def joinS (a b : List UInt8) : List UInt8 := sha (tagB 74 [a, b])
theorem tag1_len (p : UInt8) (s : List UInt8) : (tagB p [s]).length = 5 + s.length := by simp [tagB, four]; omega
theorem tag2_len (p : UInt8) (s t : List UInt8) : (tagB p [s, t]).length = 9 + s.length + t.length := by simp [tagB, four]; omega
end Go.Vm
namespace Go.Vm.Ythfcgllahllkkaa
open Go.Proofs
theorem Path_ok (k : List UInt8) (h : k.length ≤ 1000000) : Gf fns 8 [.str k] = some (.str (pathS k), []) := by
  have t := Tagged_ok 80 .ro [k] (by simp) (by rw [tag1_len]; omega)
  rw [show ((80 : UInt8).toNat : Int) = 80 from rfl] at t
  simp -implicitDefEqProofs (disch := omega) only [go_sem, seval, List.length_cons, List.length_nil, List.map_cons, List.map_nil] at t
  refine Gf_start rfl rfl ?_
  simp -implicitDefEqProofs (disch := omega) only [go_sem, seval, t, pathS]
theorem Value_ok (k : List UInt8) (h : k.length ≤ 1000000) : Gf fns 9 [.str k] = some (.str (valS k), []) := by
  have t := Tagged_ok 86 .ro [k] (by simp) (by rw [tag1_len]; omega)
  rw [show ((86 : UInt8).toNat : Int) = 86 from rfl] at t
  simp -implicitDefEqProofs (disch := omega) only [go_sem, seval, List.length_cons, List.length_nil, List.map_cons, List.map_nil] at t
  refine Gf_start rfl rfl ?_
  simp -implicitDefEqProofs (disch := omega) only [go_sem, seval, t, valS]
theorem LeafHash_ok (p v : List UInt8) (h : p.length ≤ 1000000) (h2 : v.length ≤ 1000000) : Gf fns 10 [.agg [.str p, .str v]] = some (.str (leafS p v), []) := by
  have t := Tagged_ok 76 .ro [p, v] (by simp) (by rw [tag2_len]; omega)
  rw [show ((76 : UInt8).toNat : Int) = 76 from rfl] at t
  simp -implicitDefEqProofs (disch := omega) only [go_sem, seval, List.length_cons, List.length_nil, List.map_cons, List.map_nil] at t
  refine Gf_start rfl rfl ?_
  simp -implicitDefEqProofs (disch := omega) only [go_sem, seval, t, leafS]
theorem Join_ok (p v : List UInt8) (h : p.length ≤ 1000000) (h2 : v.length ≤ 1000000) : Gf fns 12 [.str p, .str v] = some (.str (joinS p v), []) := by
  have t := Tagged_ok 74 .ro [p, v] (by simp) (by rw [tag2_len]; omega)
  rw [show ((74 : UInt8).toNat : Int) = 74 from rfl] at t
  simp -implicitDefEqProofs (disch := omega) only [go_sem, seval, List.length_cons, List.length_nil, List.map_cons, List.map_nil] at t
  refine Gf_start rfl rfl ?_
  simp -implicitDefEqProofs (disch := omega) only [go_sem, seval, t, joinS]
theorem Hash_ok (p v : List UInt8) (h : p.length ≤ 1000000) (h2 : v.length ≤ 1000000) : Gf fns 11 [.agg [.str p, .str v]] = some (.str (leafS p v), []) := by
  have t := RTagged_ok 76 .ro [p, v] (by simp) (by rw [tag2_len]; omega)
  rw [show ((76 : UInt8).toNat : Int) = 76 from rfl] at t
  simp -implicitDefEqProofs (disch := omega) only [go_sem, seval, List.length_cons, List.length_nil, List.map_cons, List.map_nil] at t
  refine Gf_start rfl rfl ?_
  simp -implicitDefEqProofs (disch := omega) only [go_sem, seval, t, leafS]
theorem Of_ok (k v : List UInt8) (h : k.length ≤ 1000000) (h2 : v.length ≤ 1000000) : Gf fns 6 [.str k, .str v] = some (.agg [.str (pathS k), .str (valS v)], []) := by
  have t := RTagged_ok 80 .ro [k] (by simp) (by rw [tag1_len]; omega)
  have t2 := RTagged_ok 86 .ro [v] (by simp) (by rw [tag1_len]; omega)
  rw [show ((80 : UInt8).toNat : Int) = 80 from rfl] at t
  rw [show ((86 : UInt8).toNat : Int) = 86 from rfl] at t2
  simp -implicitDefEqProofs (disch := omega) only [go_sem, seval, List.length_cons, List.length_nil, List.map_cons, List.map_nil] at t t2
  refine Gf_start rfl rfl ?_
  simp -implicitDefEqProofs (disch := omega) only [go_sem, seval, t, t2, pathS, valS]
def fewT (s : List UInt8) : List UInt8 := if 60 < s.length then s.take 60 else s
theorem few_len (s : List UInt8) : (fewT s).length ≤ 60 := by
  unfold fewT
  split
  · simp; omega
  · omega
theorem few_ok (s : List UInt8) : Gf fns 5 [.str s] = some (.str (fewT s), []) := by
  unfold fewT
  refine Gf_start rfl rfl ?_
  by_cases h : 60 < s.length
  · simp -implicitDefEqProofs (disch := omega) only [go_sem, seval, h]
  · simp -implicitDefEqProofs (disch := omega) only [go_sem, seval, h]
theorem New_t : Gf fns 14 [] = some (.opt [.nilp, .int .i64 0], []) := by
  refine Gf_start rfl rfl ?_
  simp -implicitDefEqProofs (disch := omega) only [go_sem, seval, go_sem]
def nodeV (p v : List UInt8) : List V := [.nilp, .nilp, .opt [.str p, .str v], .str (leafS p v)]
theorem leafNode_ok (p v : List UInt8) (h : p.length ≤ 1000000) (h2 : v.length ≤ 1000000) : Gf fns 37 [.agg [.str p, .str v]] = some (.opt (nodeV p v), []) := by
  have t := LeafHash_ok p v h h2
  refine Gf_start rfl rfl ?_
  simp -implicitDefEqProofs (disch := omega) only [go_sem, seval, t, nodeV]
theorem put_ok (p v : List UInt8) (h : p.length ≤ 1000000) (h2 : v.length ≤ 1000000) : Gf fns 24 [.nilp, .agg [.str p, .str v], .int .i64 0] = some (.opt (nodeV p v), []) := by
  have t := leafNode_ok p v h h2
  refine Gf_start rfl rfl ?_
  simp -implicitDefEqProofs (disch := omega) only [go_sem, seval, t, nodeV]
theorem Get_ok (k : List UInt8) (h : k.length ≤ 1000000) : Gf fns 23 [.pt [.nilp, .int .i64 0] 0, .str k] = some (.tup [.str [], .bool false], []) := by
  have t := Path_ok k h
  refine Gf_start rfl rfl ?_
  simp -implicitDefEqProofs (disch := omega) only [go_sem, seval, t, ↓wp_unroll, lp23_0]
theorem Put_ok (k v : List UInt8) (h : k.length ≤ 1000000) (h2 : v.length ≤ 1000000) : Gf fns 15 [.opt [.nilp, .int .i64 0], .str k, .str v] = some (.int .i64 0, [.opt [.opt (nodeV (pathS k) (valS v)), .int .i64 1]]) := by
  have g := Get_ok k h
  have t1 := Path_ok k h
  have t2 := Value_ok v h2
  have t3 := put_ok (pathS k) (valS v) (by unfold pathS; rw [sha_len]; decide) (by unfold valS; rw [sha_len]; decide)
  simp -implicitDefEqProofs (disch := omega) only [go_sem, seval, nodeV] at t3
  refine Gf_start rfl rfl ?_
  simp -implicitDefEqProofs (disch := omega) only [go_sem, seval, g]
  refine wp_draw_E ?_
  simp -implicitDefEqProofs (disch := omega) only [go_sem, seval, t1, t2, t3, nodeV]
theorem Root_ok (p v : List UInt8) : Gf fns 16 [.pt [.pt [.nilp, .nilp, .pt [.str p, .str v] 0, .str (leafS p v)] 0, .int .i64 1] 0] = some (.str (leafS p v), []) := by
  have t : Gf fns 25 [.pt [.nilp, .nilp, .pt [.str p, .str v] 0, .str (leafS p v)] 0] = some (.str (leafS p v), []) := by
    refine Gf_start rfl rfl ?_
    simp -implicitDefEqProofs (disch := omega) only [go_sem, seval, go_sem]
  refine Gf_start rfl rfl ?_
  simp -implicitDefEqProofs (disch := omega) only [go_sem, seval, t]
end Go.Vm.Ythfcgllahllkkaa
