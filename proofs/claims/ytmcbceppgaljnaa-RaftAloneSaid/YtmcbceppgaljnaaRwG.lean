/- (seval) Raft: a replica alone, told by value: ticks. -/
import Derived.Test.YtmcbceppgaljnaaRwE
set_option linter.unusedSectionVars false
set_option linter.unusedSimpArgs false
set_option linter.unusedVariables false
set_option maxHeartbeats 4000000
set_option maxRecDepth 10000
namespace Go.Vm.Ytmcbceppgaljnaa
open Go.Proofs
variable (l : List EA)
theorem Tick_f1 (s h : Nat) (hs : s + 1 < 10) (hh : h < 100) : Gf fns 5 [.opt (fA dO nO 0 (-1) s h 10)] = some (nO, [.opt (fA dO nO 0 (-1) ((s + 1 : Nat) : Int) ((h + 1 : Nat) : Int) 10)]) := by
  have h2 : ¬ 10 ≤ s + 1 := by omega
  refine Gf_start rfl rfl ?_
  simp -implicitDefEqProofs (maxSteps := 2000000) (disch := omega) only [go_sem, seval, fA, na, dO, dN, dR, bO, nO]
  refine wp_draw_E ?_
  simp -implicitDefEqProofs (maxSteps := 2000000) (disch := omega) only [go_sem, seval, h2]
theorem Tick_c1 (h : Nat) (hh : h < 100) : Gf fns 5 [.opt (fA dO nO 0 (-1) 9 h 10)] = some (nO, [.opt (lA dO (1 : Nat) [(1, [])] (1 : Nat) 0 ((h + 1 : Nat) : Int) 13)]) := by
  have c := campaign_1 ((h + 1 : Nat) : Int)
  simp -implicitDefEqProofs (maxSteps := 2000000) (disch := omega) only [go_sem, seval, fA, lA, na, dO, dN, dR, bO, lO, nO, vA, rows_cons, rows_nil, eA, List.length_cons, List.length_nil, Int.natCast_one] at c
  refine Gf_start rfl rfl ?_
  simp -implicitDefEqProofs (maxSteps := 2000000) (disch := omega) only [go_sem, seval, fA, na, dO, dN, dR, bO, nO, show IntKind.i64.wrap 10 = 10 from rfl]
  refine wp_draw_E ?_
  simp -implicitDefEqProofs (maxSteps := 2000000) (disch := omega) only [go_sem, seval, ]
  simp -implicitDefEqProofs (maxSteps := 2000000) (disch := omega) only [go_sem, seval, callr16, c, lA, na, dO, dN, dR, bO, lO, nO, vA, rows_cons, rows_nil, eA, List.length_cons, List.length_nil, Int.natCast_one]
theorem Tick_f2 (s h : Nat) (hs : s + 1 < 13) (hh : h < 100) : Gf fns 5 [.opt (fA dN (lO l) 1 0 s h 13)] = some (nO, [.opt (fA dN (lO l) 1 0 ((s + 1 : Nat) : Int) ((h + 1 : Nat) : Int) 13)]) := by
  have hn := eAn l
  have r7 := eA_ro 6 l
  have r6 := eA_ro 5 l
  have r5 := eA_ro 4 l
  have h2 : ¬ 13 ≤ s + 1 := by omega
  refine Gf_start rfl rfl ?_
  simp -implicitDefEqProofs (maxSteps := 2000000) (disch := omega) only [go_sem, seval, fA, na, dO, dN, dR, bO, lO, nO, hn, r7, r6, r5]
  refine wp_draw_E ?_
  simp -implicitDefEqProofs (maxSteps := 2000000) (disch := omega) only [go_sem, seval, h2, hn, r7, r6, r5]
theorem Tick_c2 (h : Nat) (hh : h < 100) (hl : l.length ≤ 900) : Gf fns 5 [.opt (fA dN (lO l) 1 0 12 h 13)] = some (nO, [.opt (lA dN (2 : Nat) (l ++ [(2, [])]) (l.length + 1 : Nat) 0 ((h + 1 : Nat) : Int) 16)]) := by
  have hn := eAn l
  have r7 := eA_ro 6 l
  have r6 := eA_ro 5 l
  have r5 := eA_ro 4 l
  have hn1 : (rows eA l ++ [V.int .i64 2, .str [], .bool false, .sl .nil 0 []]).length = (l.length + 1) * 4 := by simp [hn]; omega
  have q7 : (rows eA l ++ [V.int .i64 2, .str [], .bool false, .sl .nil 0 []]).any (hasRo 7) = false := eA_snoc l (2, []) ▸ eA_ro 6 _
  have q6 : (rows eA l ++ [V.int .i64 2, .str [], .bool false, .sl .nil 0 []]).any (hasRo 6) = false := eA_snoc l (2, []) ▸ eA_ro 5 _
  have q5 : (rows eA l ++ [V.int .i64 2, .str [], .bool false, .sl .nil 0 []]).any (hasRo 5) = false := eA_snoc l (2, []) ▸ eA_ro 4 _
  have c := campaign_2 ((h + 1 : Nat) : Int) l hl
  simp -implicitDefEqProofs (maxSteps := 2000000) (disch := omega) only [go_sem, seval, fA, lA, na, dO, dN, dR, bO, lO, nO, vA, eA_snoc, List.length_append, List.length_cons, List.length_nil] at c
  refine Gf_start rfl rfl ?_
  simp -implicitDefEqProofs (maxSteps := 2000000) (disch := omega) only [go_sem, seval, fA, na, dO, dN, dR, bO, lO, nO, hn, r7, r6, r5, show IntKind.i64.wrap 13 = 13 from rfl]
  refine wp_draw_E ?_
  simp -implicitDefEqProofs (maxSteps := 2000000) (disch := omega) only [go_sem, seval, hn, r7, r6, r5]
  simp -implicitDefEqProofs (maxSteps := 2000000) (disch := omega) only [go_sem, seval, callr16, c, lA, na, dO, dN, dR, bO, lO, nO, vA, eA_snoc, List.length_append, List.length_cons, List.length_nil, hn, hn1, r7, r6, r5, q7, q6, q5]
theorem Tick_la (dr : V) (hk : dr = dN ∨ dr = dO) (term c : Nat) (tmo : Int) (s h : Nat) (hs : s + 1 < 3) (hh : h < 100) (hl : l.length ≤ 1000) : Gf fns 5 [.opt (lA dr term l c s h tmo)] = some (nO, [.opt (lA dr term l c ((s + 1 : Nat) : Int) ((h + 1 : Nat) : Int) tmo)]) := by
  have hn := eAn l
  have r7 := eA_ro 6 l
  have r6 := eA_ro 5 l
  have r5 := eA_ro 4 l
  have h2 : ¬ 3 ≤ s + 1 := by omega
  rcases hk with rfl | rfl <;> (
    refine Gf_start rfl rfl ?_
    simp -implicitDefEqProofs (maxSteps := 2000000) (disch := omega) only [go_sem, seval, lA, na, dO, dN, dR, bO, lO, nO, vA, hn, h2, r7, r6, r5]
    refine wp_draw_E ?_
    simp -implicitDefEqProofs (maxSteps := 2000000) (disch := omega) only [go_sem, seval, hn, r7, r6, r5])
theorem Tick_ta (dr : V) (hk : dr = dN ∨ dr = dO) (term c : Nat) (tmo : Int) (h : Nat) (hh : h < 100) (hl : l.length ≤ 1000) : Gf fns 5 [.opt (lA dr term l c 2 h tmo)] = some (nO, [.opt (lA dr term l c 0 ((h + 1 : Nat) : Int) tmo)]) := by
  have hn := eAn l
  have r7 := eA_ro 6 l
  have r6 := eA_ro 5 l
  have r5 := eA_ro 4 l
  have c1 := tellAll_a 3 ((h + 1 : Nat) : Int) tmo l dr hk term hl c
  rcases hk with rfl | rfl <;> (
    simp -implicitDefEqProofs (maxSteps := 2000000) (disch := omega) only [go_sem, seval, lA, na, dO, dN, dR, bO, lO, nO, vA] at c1
    refine Gf_start rfl rfl ?_
    simp -implicitDefEqProofs (maxSteps := 2000000) (disch := omega) only [go_sem, seval, lA, na, dO, dN, dR, bO, lO, nO, vA, hn, r7, r6, r5, show IntKind.i64.wrap 3 = 3 from rfl]
    simp -implicitDefEqProofs (maxSteps := 2000000) (disch := omega) only [go_sem, seval, callr15, c1, hn, r7, r6, r5])
end Go.Vm.Ytmcbceppgaljnaa
