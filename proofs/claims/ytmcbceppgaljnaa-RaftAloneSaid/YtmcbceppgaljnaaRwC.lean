/- (seval) Raft: a replica alone, told by value: what is written. -/
import Derived.Test.YtmcbceppgaljnaaRwA
set_option linter.unusedSectionVars false
set_option linter.unusedSimpArgs false
set_option linter.unusedVariables false
set_option maxHeartbeats 4000000
set_option maxRecDepth 10000
namespace Go.Vm
theorem eA_ro (d : Nat) (l : List EA) : (rows eA l).any (hasRo (d + 1)) = false := by
  induction l with
  | nil => rfl
  | cons e l ih => rw [rows_cons, List.any_append, ih]; rfl
theorem eA_snoc (l : List EA) (e : EA) : rows eA (l ++ [e]) = rows eA l ++ [.int .i64 e.1, .str e.2, .bool false, .sl .nil 0 []] := by rw [rows_append]; rfl
end Go.Vm
namespace Go.Vm.Ytmcbceppgaljnaa
open Go.Proofs
def bO : V := .osl 1 1 [.int .i64 0]
def lO (l : List EA) : V := .osl 4 l.length (rows eA l)
def vA : List (V × V) := [(.int .i64 0, .bool true)]
def dO : V := .osl 1 0 []
def dN : V := .sl .nil 0 []
/-- As it is read. -/
def dR : V → V
  | .osl _ _ _ => .sl .ro 0 []
  | v => v
/-- One that follows; that wants to lead; that leads. -/
def fA (dr : V) (lo : V) (term vote since heard tmo : Int) : List V := na bO term vote lo 1 (-1) 0 since heard tmo dr .nilm .nilm .nilm .nilm
def cA (dr : V) (lo : V) (term since heard tmo : Int) : List V := na bO term 0 lo 2 (-1) 0 since heard tmo dr (.omp vA) .nilm .nilm .nilm
def lA (dr : V) (term : Int) (l : List EA) (commit since heard tmo : Int) : List V := na bO term 0 (lO l) 3 0 commit since heard tmo dr (.omp vA) (.omp []) (.omp []) (.omp [])
def nO : V := .sl .nil 0 []
variable (since heard timeout : Int) (l : List EA)
theorem rest_f0 : Gf fns 32 [.opt (fA dO nO 0 (-1) since heard timeout)] = some (.tup [], [.opt (fA dO nO 0 (-1) 0 heard 10)]) := by
  refine Gf_start rfl rfl ?_
  simp -implicitDefEqProofs (maxSteps := 2000000) (disch := omega) only [go_sem, seval, fA, na, dO, dN, dR, bO, nO]
  refine wp_draw_E ?_
  simp -implicitDefEqProofs (maxSteps := 2000000) (disch := omega) only [go_sem, seval, show IntKind.i64.wrap 0 = 0 from rfl, show Int.tmod 0 20 = 0 from rfl, show IntKind.i64.wrap 20 = 20 from rfl, show Int.tmod 20 20 = 0 from rfl, show IntKind.i64.wrap 10 = 10 from rfl]
theorem rest_f1 : Gf fns 32 [.opt (fA dN (lO l) 1 0 since heard timeout)] = some (.tup [], [.opt (fA dN (lO l) 1 0 0 heard 13)]) := by
  have hn := eAn l
  refine Gf_start rfl rfl ?_
  simp -implicitDefEqProofs (maxSteps := 2000000) (disch := omega) only [go_sem, seval, fA, na, dO, dN, dR, bO, lO]
  refine wp_draw_E ?_
  simp -implicitDefEqProofs (maxSteps := 2000000) (disch := omega) only [go_sem, seval, hn, show IntKind.i64.wrap 0 = 0 from rfl, show IntKind.i64.wrap 3 = 3 from rfl, show Int.tmod 3 20 = 3 from rfl, show IntKind.i64.wrap 23 = 23 from rfl, show Int.tmod 23 20 = 3 from rfl, show IntKind.i64.wrap 13 = 13 from rfl]
theorem rest_c1 : Gf fns 32 [.opt (cA dO nO 1 since heard timeout)] = some (.tup [], [.opt (cA dO nO 1 0 heard 13)]) := by
  refine Gf_start rfl rfl ?_
  simp -implicitDefEqProofs (maxSteps := 2000000) (disch := omega) only [go_sem, seval, cA, na, dO, dN, dR, bO, nO, vA]
  refine wp_draw_E ?_
  simp -implicitDefEqProofs (maxSteps := 2000000) (disch := omega) only [go_sem, seval, show IntKind.i64.wrap 0 = 0 from rfl, show IntKind.i64.wrap 3 = 3 from rfl, show Int.tmod 3 20 = 3 from rfl, show IntKind.i64.wrap 23 = 23 from rfl, show Int.tmod 23 20 = 3 from rfl, show IntKind.i64.wrap 13 = 13 from rfl]
theorem rest_c2 : Gf fns 32 [.opt (cA dN (lO l) 2 since heard timeout)] = some (.tup [], [.opt (cA dN (lO l) 2 0 heard 16)]) := by
  have hn := eAn l
  refine Gf_start rfl rfl ?_
  simp -implicitDefEqProofs (maxSteps := 2000000) (disch := omega) only [go_sem, seval, cA, na, dO, dN, dR, bO, lO, vA]
  refine wp_draw_E ?_
  simp -implicitDefEqProofs (maxSteps := 2000000) (disch := omega) only [go_sem, seval, hn, show IntKind.i64.wrap 0 = 0 from rfl, show IntKind.i64.wrap 6 = 6 from rfl, show Int.tmod 6 20 = 6 from rfl, show IntKind.i64.wrap 26 = 26 from rfl, show Int.tmod 26 20 = 6 from rfl, show IntKind.i64.wrap 16 = 16 from rfl]
theorem follow_0 : Gf fns 28 [.opt (na bO 0 (-1) nO 0 (-1) 0 0 0 0 dO .nilm .nilm .nilm .nilm), .int .i64 0, .int .i64 (-1)] = some (.tup [], [.opt (fA dO nO 0 (-1) 0 0 10)]) := by
  have r := rest_f0 0 0 0
  simp -implicitDefEqProofs (maxSteps := 2000000) (disch := omega) only [go_sem, seval, fA, na, dO, dN, dR, bO, nO] at r
  refine Gf_start rfl rfl ?_
  simp -implicitDefEqProofs (maxSteps := 2000000) (disch := omega) only [go_sem, seval, fA, na, dO, dN, dR, bO, nO, callr32, r]
theorem follow_1 : Gf fns 28 [.opt (na bO 1 0 (lO l) 0 (-1) 0 0 0 0 (.sl .nil 0 []) .nilm .nilm .nilm .nilm), .int .i64 1, .int .i64 (-1)] = some (.tup [], [.opt (fA dN (lO l) 1 0 0 0 13)]) := by
  have hn := eAn l
  have r := rest_f1 0 0 0 l
  have r7 := eA_ro 6 l
  have r6 := eA_ro 5 l
  have r5 := eA_ro 4 l
  simp -implicitDefEqProofs (maxSteps := 2000000) (disch := omega) only [go_sem, seval, fA, na, dO, dN, dR, bO, lO] at r
  refine Gf_start rfl rfl ?_
  simp -implicitDefEqProofs (maxSteps := 2000000) (disch := omega) only [go_sem, seval, fA, na, dO, dN, dR, bO, lO, hn, callr32, r, r7, r6, r5]
theorem advance_a (dr : V) (hk : dr = dN ∨ dr = dO) (term : Nat) (hl : l.length ≤ 1000) (h0 : 0 < l.length) (c : Nat) (hc : c < l.length) (ht : (gt l (l.length - 1)).1 = (term : Int)) :
    Gf fns 36 [.opt (lA dr term l c since heard timeout)] = some (.tup [], [.opt (lA dr term l l.length since heard timeout)]) := by
  have hn := eAn l
  have r7 := eA_ro 6 l
  have r6 := eA_ro 5 l
  have r5 := eA_ro 4 l
  have a := last_a (term : Int) 0 3 0 (c : Int) since heard timeout (dR dr) (.rmp vA) (.rmp []) (.rmp []) (.rmp []) .ro l hl
  have b := term_a (term : Int) 0 3 0 (c : Int) since heard timeout (dR dr) (.rmp vA) (.rmp []) (.rmp []) (.rmp []) .ro l hl (l.length - 1) (by omega)
  have m := Members_a (term : Int) 0 3 0 (c : Int) since heard timeout (dR dr) (.rmp vA) (.rmp []) (.rmp []) (.rmp []) .ro l hl
  rw [show l.length - 1 + 1 = l.length by omega, ht] at b
  have mo := Most_ok
  have e3 : (SK.ro == SK.nil) = false := rfl
  rcases hk with rfl | rfl <;> (
    simp -implicitDefEqProofs (maxSteps := 2000000) (disch := omega) only [go_sem, seval, na, dO, dN, dR, vA] at a b m
    refine Gf_start rfl rfl ?_
    simp -implicitDefEqProofs (maxSteps := 2000000) (disch := omega) only [go_sem, seval, lA, na, dO, dN, dR, bO, lO, vA, hn, a, ↓wp_unroll, lp36_0, lp36_1, b, m, mo, hc, r7, r6, r5])
end Go.Vm.Ytmcbceppgaljnaa
