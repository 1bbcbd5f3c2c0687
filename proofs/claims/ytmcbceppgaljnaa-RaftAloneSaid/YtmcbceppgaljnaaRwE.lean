/- (seval) Raft: a replica alone, told by value: it is asked, and begins. -/
import Derived.Test.YtmcbceppgaljnaaRwD
set_option linter.unusedSectionVars false
set_option linter.unusedSimpArgs false
set_option linter.unusedVariables false
set_option maxHeartbeats 4000000
set_option maxRecDepth 10000
namespace Go.Vm.Ytmcbceppgaljnaa
open Go.Proofs
variable (since heard timeout : Int) (l : List EA)
theorem campaign_1 : Gf fns 16 [.opt (fA dO nO 0 (-1) 10 heard 10)] = some (nO, [.opt (lA dO (1 : Nat) [(1, [])] (1 : Nat) 0 heard 13)]) := by
  have a := stands_a 0 (-1) 1 (-1) 0 10 heard 10 (.sl .ro 0 []) .nilm .nilm .nilm .nilm .nil [] (by simp)
  have b := rest_c1 10 heard 10
  have c := Members_a 1 0 2 (-1) 0 0 heard 13 (.sl .ro 0 []) (.rmp vA) .nilm .nilm .nilm .nil [] (by simp)
  have d := lead_1 heard
  have mo := Most_ok
  simp -implicitDefEqProofs (maxSteps := 2000000) (disch := omega) only [go_sem, seval, na, dO, dN, dR, vA, List.length_nil, rows_nil] at a c
  simp -implicitDefEqProofs (maxSteps := 2000000) (disch := omega) only [go_sem, seval, cA, lA, na, dO, dN, dR, bO, lO, nO, vA, rows_cons, rows_nil, eA, List.length_cons, List.length_nil, Int.natCast_one] at b d
  refine Gf_start rfl rfl ?_
  simp -implicitDefEqProofs (maxSteps := 2000000) (disch := omega) only [go_sem, seval, fA, na, dO, dN, dR, bO, nO, a, callr32, b, show IntKind.i64.wrap 1 = 1 from rfl]
  refine wp_draw_E ?_
  simp -implicitDefEqProofs (maxSteps := 2000000) (disch := omega) only [go_sem, seval, c, mo]
  simp -implicitDefEqProofs (maxSteps := 2000000) (disch := omega) only [go_sem, seval, callr34, d, lA, na, dO, dN, dR, bO, lO, nO, vA, rows_cons, rows_nil, eA, List.length_cons, List.length_nil, Int.natCast_one]
theorem campaign_2 (hl : l.length ≤ 900) : Gf fns 16 [.opt (fA dN (lO l) 1 0 13 heard 13)] = some (nO, [.opt (lA dN (2 : Nat) (l ++ [(2, [])]) (l.length + 1 : Nat) 0 heard 16)]) := by
  have hn := eAn l
  have r7 := eA_ro 6 l
  have r6 := eA_ro 5 l
  have r5 := eA_ro 4 l
  have hn1 : (rows eA l ++ [V.int .i64 2, .str [], .bool false, .sl .nil 0 []]).length = (l.length + 1) * 4 := by simp [hn]; omega
  have q7 : (rows eA l ++ [V.int .i64 2, .str [], .bool false, .sl .nil 0 []]).any (hasRo 7) = false := eA_snoc l (2, []) ▸ eA_ro 6 _
  have q6 : (rows eA l ++ [V.int .i64 2, .str [], .bool false, .sl .nil 0 []]).any (hasRo 6) = false := eA_snoc l (2, []) ▸ eA_ro 5 _
  have q5 : (rows eA l ++ [V.int .i64 2, .str [], .bool false, .sl .nil 0 []]).any (hasRo 5) = false := eA_snoc l (2, []) ▸ eA_ro 4 _
  have a := stands_a 1 0 1 (-1) 0 13 heard 13 (.sl .nil 0 []) .nilm .nilm .nilm .nilm .ro l (by omega)
  have b := rest_c2 13 heard 13 l
  have c := Members_a 2 0 2 (-1) 0 0 heard 16 (.sl .nil 0 []) (.rmp vA) .nilm .nilm .nilm .ro l (by omega)
  have d := lead_2 heard l hl
  have mo := Most_ok
  simp -implicitDefEqProofs (maxSteps := 2000000) (disch := omega) only [go_sem, seval, na, dO, dN, dR, vA] at a c
  simp -implicitDefEqProofs (maxSteps := 2000000) (disch := omega) only [go_sem, seval, cA, lA, na, dO, dN, dR, bO, lO, nO, vA, eA_snoc, List.length_append, List.length_cons, List.length_nil] at b d
  refine Gf_start rfl rfl ?_
  simp -implicitDefEqProofs (maxSteps := 2000000) (disch := omega) only [go_sem, seval, fA, na, dO, dN, dR, bO, lO, nO, hn, a, callr32, b, show IntKind.i64.wrap 2 = 2 from rfl, r7, r6, r5]
  refine wp_draw_E ?_
  simp -implicitDefEqProofs (maxSteps := 2000000) (disch := omega) only [go_sem, seval, c, mo, hn, r7, r6, r5]
  simp -implicitDefEqProofs (maxSteps := 2000000) (disch := omega) only [go_sem, seval, callr34, d, lA, na, dO, dN, dR, bO, lO, nO, vA, eA_snoc, List.length_append, List.length_cons, List.length_nil, hn, hn1, r7, r6, r5, q7, q6, q5]
theorem put_a (s : List UInt8) (hl : l.length ≤ 900) (h0 : 0 < l.length) : Gf fns 18 [.opt (lA dO (1 : Nat) l l.length since heard 13), .agg (eA (1, s))] = some (.tup [.int .i64 (l.length + 1 : Nat), nO, .bool true], [.opt (lA dO (1 : Nat) (l ++ [(1, s)]) (l.length + 1 : Nat) 0 heard 13)]) := by
  have hn := eAn l
  have r7 := eA_ro 6 l
  have r6 := eA_ro 5 l
  have r5 := eA_ro 4 l
  have hn1 : (rows eA l ++ [V.int .i64 1, .str s, .bool false, .sl .nil 0 []]).length = (l.length + 1) * 4 := by simp [hn]; omega
  have q7 : (rows eA l ++ [V.int .i64 1, .str s, .bool false, .sl .nil 0 []]).any (hasRo 7) = false := eA_snoc l (1, s) ▸ eA_ro 6 _
  have q6 : (rows eA l ++ [V.int .i64 1, .str s, .bool false, .sl .nil 0 []]).any (hasRo 6) = false := eA_snoc l (1, s) ▸ eA_ro 5 _
  have q5 : (rows eA l ++ [V.int .i64 1, .str s, .bool false, .sl .nil 0 []]).any (hasRo 5) = false := eA_snoc l (1, s) ▸ eA_ro 4 _
  have hg : (gt (l ++ [(1, s)]) ((l ++ [((1 : Int), s)]).length - 1)).1 = ((1 : Nat) : Int) := by simp [gt]
  have a := advance_a since heard 13 (l ++ [(1, s)]) dO (.inr rfl) 1 (by simp; omega) (by simp) l.length (by simp) hg
  have b := last_a 1 0 3 0 ((l.length + 1 : Nat) : Int) since heard 13 (.sl .ro 0 []) (.rmp vA) (.rmp []) (.rmp []) (.rmp []) .ro (l ++ [(1, s)]) (by simp; omega)
  have c := tellAll_a since heard 13 (l ++ [(1, s)]) dO (.inr rfl) 1 (by simp; omega) (l.length + 1)
  have d := leave_a 0 heard 13 (l ++ [(1, s)]) 1 (by simp; omega) (l.length + 1)
  simp -implicitDefEqProofs (maxSteps := 2000000) (disch := omega) only [go_sem, seval, na, dO, dN, dR, vA, eA_snoc, List.length_append, List.length_cons, List.length_nil] at b
  simp -implicitDefEqProofs (maxSteps := 2000000) (disch := omega) only [go_sem, seval, lA, na, dO, dN, dR, bO, lO, nO, vA, eA_snoc, List.length_append, List.length_cons, List.length_nil] at a c d
  refine Gf_start rfl rfl ?_
  simp -implicitDefEqProofs (maxSteps := 2000000) (disch := omega) only [go_sem, seval, lA, na, dO, dN, dR, bO, lO, nO, vA, eA, hn]
  refine wp_draw_E ?_
  simp -implicitDefEqProofs (maxSteps := 2000000) (disch := omega) only [go_sem, seval, hn, hn1, r7, r6, r5]
  simp -implicitDefEqProofs (maxSteps := 2000000) (disch := omega) only [go_sem, seval, callr36, a, b, hn1, q7, q6, q5]
  simp -implicitDefEqProofs (maxSteps := 2000000) (disch := omega) only [go_sem, seval, callr15, c, hn1, q7, q6, q5]
  simp -implicitDefEqProofs (maxSteps := 2000000) (disch := omega) only [go_sem, seval, callr37, d, lA, na, dO, dN, dR, bO, lO, nO, vA, eA_snoc, List.length_append, List.length_cons, List.length_nil, hn1, q7, q6, q5]
theorem Propose_a (s : List UInt8) (hl : l.length ≤ 900) (h0 : 0 < l.length) : Gf fns 10 [.opt (lA dO (1 : Nat) l l.length since heard 13), .str s] = some (.tup [.int .i64 (l.length + 1 : Nat), nO, .bool true], [.opt (lA dO (1 : Nat) (l ++ [(1, s)]) (l.length + 1 : Nat) 0 heard 13)]) := by
  have hn := eAn l
  have r7 := eA_ro 6 l
  have r6 := eA_ro 5 l
  have r5 := eA_ro 4 l
  have hn1 : (rows eA l ++ [V.int .i64 1, .str s, .bool false, .sl .nil 0 []]).length = (l.length + 1) * 4 := by simp [hn]; omega
  have q7 : (rows eA l ++ [V.int .i64 1, .str s, .bool false, .sl .nil 0 []]).any (hasRo 7) = false := eA_snoc l (1, s) ▸ eA_ro 6 _
  have q6 : (rows eA l ++ [V.int .i64 1, .str s, .bool false, .sl .nil 0 []]).any (hasRo 6) = false := eA_snoc l (1, s) ▸ eA_ro 5 _
  have q5 : (rows eA l ++ [V.int .i64 1, .str s, .bool false, .sl .nil 0 []]).any (hasRo 5) = false := eA_snoc l (1, s) ▸ eA_ro 4 _
  have b := last_a 1 0 3 0 (l.length : Int) since heard 13 (.sl .ro 0 []) (.rmp vA) (.rmp []) (.rmp []) (.rmp []) .ro l (by omega)
  have c := put_a since heard l s hl h0
  have hmx : ¬ 2147483647 ≤ l.length := by omega
  simp -implicitDefEqProofs (maxSteps := 2000000) (disch := omega) only [go_sem, seval, na, dO, dN, dR, vA] at b
  simp -implicitDefEqProofs (maxSteps := 2000000) (disch := omega) only [go_sem, seval, lA, na, dO, dN, dR, bO, lO, nO, vA, eA, eA_snoc, List.length_append, List.length_cons, List.length_nil] at c
  refine Gf_start rfl rfl ?_
  simp -implicitDefEqProofs (maxSteps := 2000000) (disch := omega) only [go_sem, seval, lA, na, dO, dN, dR, bO, lO, nO, vA, eA, hn, b, hmx, r7, r6, r5]
  simp -implicitDefEqProofs (maxSteps := 2000000) (disch := omega) only [go_sem, seval, callr18, c, lA, na, dO, dN, dR, bO, lO, nO, vA, eA_snoc, List.length_append, List.length_cons, List.length_nil, hn, hn1, q7, q6, q5]
end Go.Vm.Ytmcbceppgaljnaa
