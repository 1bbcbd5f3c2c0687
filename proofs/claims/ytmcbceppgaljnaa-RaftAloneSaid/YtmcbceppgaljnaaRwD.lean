/- (seval) Raft: a replica alone, told by value: it leads. -/
import Derived.Test.YtmcbceppgaljnaaRwC
set_option linter.unusedSectionVars false
set_option linter.unusedSimpArgs false
set_option linter.unusedVariables false
set_option maxHeartbeats 4000000
set_option maxRecDepth 10000
namespace Go.Vm.Ytmcbceppgaljnaa
open Go.Proofs
variable (since heard timeout : Int) (l : List EA)
theorem tellAll_a (dr : V) (hk : dr = dN ∨ dr = dO) (term : Nat) (hl : l.length ≤ 1000) (c : Nat) :
    Gf fns 15 [.opt (lA dr term l c since heard timeout)] = some (nO, [.opt (lA dr term l c 0 heard timeout)]) := by
  have hn := eAn l
  have r7 := eA_ro 6 l
  have r6 := eA_ro 5 l
  have r5 := eA_ro 4 l
  have a := others_a (term : Int) 0 3 0 (c : Int) 0 heard timeout (dR dr) (.rmp vA) (.rmp []) (.rmp []) (.rmp []) .ro l hl
  rcases hk with rfl | rfl <;> (
    simp -implicitDefEqProofs (maxSteps := 2000000) (disch := omega) only [go_sem, seval, na, dO, dN, dR, vA] at a
    refine Gf_start rfl rfl ?_
    simp -implicitDefEqProofs (maxSteps := 2000000) (disch := omega) only [go_sem, seval, lA, na, dO, dN, dR, bO, lO, nO, vA, hn, a, ↓wp_unroll, lp15_0, r7, r6, r5])
theorem leave_a (term : Nat) (hl : l.length ≤ 1000) (c : Nat) :
    Gf fns 37 [.opt (lA dO term l c since heard timeout)] = some (.tup [], [.opt (lA dO term l c since heard timeout)]) := by
  have hn := eAn l
  have r7 := eA_ro 6 l
  have r6 := eA_ro 5 l
  have r5 := eA_ro 4 l
  have a := Members_a (term : Int) 0 3 0 (c : Int) since heard timeout (.sl .ro 0 []) (.rmp vA) (.rmp []) (.rmp []) (.rmp []) .ro l hl
  simp -implicitDefEqProofs (maxSteps := 2000000) (disch := omega) only [go_sem, seval, na, dO, dN, dR, vA] at a
  refine Gf_start rfl rfl ?_
  simp -implicitDefEqProofs (maxSteps := 2000000) (disch := omega) only [go_sem, seval, lA, na, dO, dN, dR, bO, lO, nO, vA, hn, r7, r6, r5]
  refine wp_draw_E ?_
  simp -implicitDefEqProofs (maxSteps := 2000000) (disch := omega) only [go_sem, seval, a, Has_ok, hn, r7, r6, r5]
theorem lead_1 : Gf fns 34 [.opt (cA dO nO 1 0 heard 13)] = some (nO, [.opt (lA dO (1 : Nat) [(1, [])] (1 : Nat) 0 heard 13)]) := by
  have a := others_a 1 0 3 0 0 0 heard 13 (.sl .ro 0 []) (.rmp vA) (.rmp []) (.rmp []) (.rmp []) .nil [] (by simp)
  have b := advance_a 0 heard 13 [(1, [])] dO (.inr rfl) 1 (by simp) (by simp) 0 (by simp) rfl
  have c := tellAll_a 0 heard 13 [(1, [])] dO (.inr rfl) 1 (by simp) 1
  simp -implicitDefEqProofs (maxSteps := 2000000) (disch := omega) only [go_sem, seval, na, dO, dN, dR, vA, List.length_nil, rows_nil] at a
  simp -implicitDefEqProofs (maxSteps := 2000000) (disch := omega) only [go_sem, seval, lA, na, dO, dN, dR, bO, lO, nO, vA, rows_cons, rows_nil, eA, List.length_cons, List.length_nil, Int.natCast_one, Int.natCast_zero] at b c
  refine Gf_start rfl rfl ?_
  simp -implicitDefEqProofs (maxSteps := 2000000) (disch := omega) only [go_sem, seval, cA, na, dO, dN, dR, bO, nO, vA, a, ↓wp_unroll, lp34_0]
  refine wp_draw_E ?_
  simp -implicitDefEqProofs (maxSteps := 2000000) (disch := omega) only [go_sem, seval, ]
  simp -implicitDefEqProofs (maxSteps := 2000000) (disch := omega) only [go_sem, seval, callr36, b]
  simp -implicitDefEqProofs (maxSteps := 2000000) (disch := omega) only [go_sem, seval, callr15, c, lA, na, bO, lO, nO, vA, rows_cons, rows_nil, eA, List.length_cons, List.length_nil, Int.natCast_one]
theorem lead_2 (hl : l.length ≤ 900) : Gf fns 34 [.opt (cA dN (lO l) 2 0 heard 16)] = some (nO, [.opt (lA dN (2 : Nat) (l ++ [(2, [])]) (l.length + 1 : Nat) 0 heard 16)]) := by
  have hn := eAn l
  have r7 := eA_ro 6 l
  have r6 := eA_ro 5 l
  have r5 := eA_ro 4 l
  have hn1 : (rows eA l ++ [V.int .i64 2, .str [], .bool false, .sl .nil 0 []]).length = (l.length + 1) * 4 := by simp [hn]; omega
  have q7 : (rows eA l ++ [V.int .i64 2, .str [], .bool false, .sl .nil 0 []]).any (hasRo 7) = false := eA_snoc l (2, []) ▸ eA_ro 6 _
  have q6 : (rows eA l ++ [V.int .i64 2, .str [], .bool false, .sl .nil 0 []]).any (hasRo 6) = false := eA_snoc l (2, []) ▸ eA_ro 5 _
  have q5 : (rows eA l ++ [V.int .i64 2, .str [], .bool false, .sl .nil 0 []]).any (hasRo 5) = false := eA_snoc l (2, []) ▸ eA_ro 4 _
  have hg : (gt (l ++ [(2, [])]) ((l ++ [((2 : Int), ([] : List UInt8))]).length - 1)).1 = ((2 : Nat) : Int) := by simp [gt]
  have a := others_a 2 0 3 0 0 0 heard 16 (.sl .nil 0 []) (.rmp vA) (.rmp []) (.rmp []) (.rmp []) .ro l (by omega)
  have b := advance_a 0 heard 16 (l ++ [(2, [])]) dN (.inl rfl) 2 (by simp; omega) (by simp) 0 (by simp) hg
  have c := tellAll_a 0 heard 16 (l ++ [(2, [])]) dN (.inl rfl) 2 (by simp; omega) (l.length + 1)
  simp -implicitDefEqProofs (maxSteps := 2000000) (disch := omega) only [go_sem, seval, na, dO, dN, dR, vA] at a
  simp -implicitDefEqProofs (maxSteps := 2000000) (disch := omega) only [go_sem, seval, lA, na, dO, dN, dR, bO, lO, nO, vA, eA_snoc, List.length_append, List.length_cons, List.length_nil, Int.natCast_zero] at b c
  refine Gf_start rfl rfl ?_
  simp -implicitDefEqProofs (maxSteps := 2000000) (disch := omega) only [go_sem, seval, cA, na, dO, dN, dR, bO, lO, nO, vA, a, hn, ↓wp_unroll, lp34_0, r7, r6, r5]
  refine wp_draw_E ?_
  simp -implicitDefEqProofs (maxSteps := 2000000) (disch := omega) only [go_sem, seval, hn, hn1, q7, q6, q5]
  simp -implicitDefEqProofs (maxSteps := 2000000) (disch := omega) only [go_sem, seval, callr36, b, hn, hn1, q7, q6, q5]
  simp -implicitDefEqProofs (maxSteps := 2000000) (disch := omega) only [go_sem, seval, callr15, c, lA, na, bO, lO, nO, vA, eA_snoc, List.length_append, List.length_cons, List.length_nil, hn1, q7, q6, q5]
end Go.Vm.Ytmcbceppgaljnaa
