/- (seval) Raft: a replica alone, told by value: it begins, and is read. -/
import Derived.Test.YtmcbceppgaljnaaRwC
set_option linter.unusedSectionVars false
set_option linter.unusedSimpArgs false
set_option linter.unusedVariables false
set_option maxHeartbeats 4000000
set_option maxRecDepth 10000
namespace Go.Vm.Ytmcbceppgaljnaa
open Go.Proofs
variable (l : List EA)
theorem CloneA (e : EA) : Gf fns 25 [.agg (eA e)] = some (.agg (eA e), []) := by
  have c := Clone_nil
  refine Gf_start rfl rfl ?_
  simp -implicitDefEqProofs (disch := omega) only [go_sem, seval, eA, c]
def clA (k : SK) (l : List EA) (i : Nat) (s : St) : Prop := i ≤ l.length ∧ s.t 6 = .sl k l.length (rows eA l) ∧ s.t 7 = .int .i64 (l.length : Int) ∧ s.t 8 = .int .i64 (i : Int) ∧ ((i = 0 ∧ s.t 3 = .sl .nil 0 []) ∨ (0 < i ∧ ∃ g, s.t 3 = .sli 1088 g 0 i 4 ∧ s.σ 1088 = ⟨g, .rw, true, rows eA (l.take i)⟩))
theorem CloneAs (k : SK) (hl : l.length ≤ 1000000) (hl0 : 0 < l.length) : Gf fns 46 [.sl k l.length (rows eA l)] = some (lO l, []) := by
  have hrl := eAn l
  refine Gf_start rfl rfl ?_
  simp -implicitDefEqProofs (disch := omega) only [go_sem, seval, go_sem]
  refine wp_loopS (clA k l) (fun i => l.length - i) 0 ⟨by omega, by simp -implicitDefEqProofs (disch := omega) only [go_sem, seval, go_sem], by simp -implicitDefEqProofs (disch := omega) only [go_sem, seval, go_sem], by simp -implicitDefEqProofs (disch := omega) only [go_sem, seval, go_sem], .inl ⟨rfl, by simp -implicitDefEqProofs (disch := omega) only [go_sem, seval, go_sem]⟩⟩ ?_
  rintro i ⟨t, σ⟩ ⟨hi, h6, h7, h8, h3⟩
  simp only at h6 h7 h8 h3
  simp -implicitDefEqProofs (disch := omega) only [go_sem, seval, lp46_0, h7, h8]
  refine condC_dec (fun hc => ?_) (fun hc => ?_)
  · have c := CloneA (gt l i)
    have hr := eArow l i hc
    have htk := take_gt hc
    have hX : rows eA (l.take (i + 1)) = rows eA (l.take i) ++ eA (gt l i) := by rw [htk, rows_append]; simp [rows]
    have hlt : (l.take i).length = i := by simp; omega
    have hrt := eAn (l.take i)
    rw [hlt] at hrt
    generalize gt l i = e at *
    simp -implicitDefEqProofs (disch := omega) only [go_sem, seval, eA] at c hr hX
    rcases h3 with ⟨rfl, h3⟩ | ⟨h0, g, h3, hb⟩
    · simp only [List.take_zero, rows_nil, List.nil_append, Nat.zero_mul, List.drop_zero] at hX hr
      simp -implicitDefEqProofs (disch := omega) only [go_sem, seval, h3, h6, h8, hr, c]
      exact ⟨1, by omega, by omega, by simp -implicitDefEqProofs (disch := omega) only [go_sem, seval, h6], by simp -implicitDefEqProofs (disch := omega) only [go_sem, seval, h7], by simp -implicitDefEqProofs (disch := omega) only [go_sem, seval, go_sem], .inr ⟨by omega, (σ 1088).gen + 1, by simp -implicitDefEqProofs (disch := omega) only [go_sem, seval, go_sem], by simp -implicitDefEqProofs (disch := omega) only [go_sem, seval, hX]⟩⟩
    · simp -implicitDefEqProofs (disch := omega) only [go_sem, seval, h3, h6, h8, hr, c, hb]
      exact ⟨i + 1, by omega, by omega, by simp -implicitDefEqProofs (disch := omega) only [go_sem, seval, h6], by simp -implicitDefEqProofs (disch := omega) only [go_sem, seval, h7], by simp -implicitDefEqProofs (disch := omega) only [go_sem, seval, go_sem], .inr ⟨by omega, g + 1, by simp -implicitDefEqProofs (disch := omega) only [go_sem, seval, go_sem], by simp -implicitDefEqProofs (disch := omega) only [go_sem, seval, hX]⟩⟩
  · obtain rfl : i = l.length := by omega
    rcases h3 with ⟨h0, h3⟩ | ⟨h0, g, h3, hb⟩
    · omega
    · rw [take_all (Nat.le_refl _)] at hb
      simp -implicitDefEqProofs (disch := omega) only [go_sem, seval, h3, hb, lO]
theorem clone_a (term vote : Int) (k : SK) (hl : l.length ≤ 1000000) (hl0 : 0 < l.length) : Gf fns 26 [.agg [.int .i64 term, .int .i64 vote, .int .i64 0, .int .i64 0, .str [], .sl .ro 1 [.int .i64 0], .sl k l.length (rows eA l)]] = some (.agg [.int .i64 term, .int .i64 vote, .int .i64 0, .int .i64 0, .str [], bO, lO l], []) := by
  have a := Clone_one
  have b := CloneAs l k hl hl0
  have hn := eAn l
  have r7 := eA_ro 6 l
  have r6 := eA_ro 5 l
  have r5 := eA_ro 4 l
  simp -implicitDefEqProofs (disch := omega) only [go_sem, seval, lO] at b
  refine Gf_start rfl rfl ?_
  simp -implicitDefEqProofs (disch := omega) only [go_sem, seval, a, b, hn, bO, lO, r7, r6, r5]
theorem clone_z : Gf fns 26 [.agg [.int .i64 0, .int .i64 (-1), .int .i64 0, .int .i64 0, .str [], .sl .ro 1 [.int .i64 0], .sl .nil 0 []]] = some (.agg [.int .i64 0, .int .i64 (-1), .int .i64 0, .int .i64 0, .str [], .osl 1 1 [.int .i64 0], .sl .nil 0 []], []) := by
  have a := Clone_one
  have b : Gf fns 46 [.sl .nil 0 []] = some (.sl .nil 0 [], []) := by
    refine Gf_start rfl rfl ?_
    simp -implicitDefEqProofs (disch := omega) only [go_sem, seval, ↓wp_unroll, lp46_0]
  refine Gf_start rfl rfl ?_
  simp -implicitDefEqProofs (disch := omega) only [go_sem, seval, a, b]
theorem Clone_z : Gf fns 27 [.sl .ro 0 []] = some (.osl 1 0 [], []) := by
  have e2 : (SK.ro == SK.nil) = false := rfl
  have e3 : ¬ SK.ro = SK.nil := by simp
  refine Gf_start rfl rfl ?_
  simp -implicitDefEqProofs (disch := omega) only [go_sem, seval, e2, e3]
theorem New_z : Gf fns 14 [.int .i64 0, .agg [.int .i64 0, .int .i64 (-1), .int .i64 0, .int .i64 0, .str [], .sl .ro 1 [.int .i64 0], .sl .nil 0 []], .sl .ro 0 []] = some (.tup [.opt (fA dO nO 0 (-1) 0 0 10), .int .i64 0], []) := by
  have f := follow_0
  have a := clone_z
  have b := Clone_z
  simp -implicitDefEqProofs (maxSteps := 2000000) (disch := omega) only [go_sem, seval, fA, na, dO, dN, dR, bO, nO] at f
  refine Gf_start rfl rfl ?_
  simp -implicitDefEqProofs (maxSteps := 2000000) (disch := omega) only [go_sem, seval, ]
  refine wp_draw_E ?_
  simp -implicitDefEqProofs (maxSteps := 2000000) (disch := omega) only [go_sem, seval, a, b]
  simp -implicitDefEqProofs (maxSteps := 2000000) (disch := omega) only [go_sem, seval, callr28, f, fA, na, dO, dN, dR, bO, nO]
theorem New_l (hl : l.length ≤ 1000) (hl0 : 0 < l.length) : Gf fns 14 [.int .i64 0, .agg [.int .i64 1, .int .i64 0, .int .i64 0, .int .i64 0, .str [], .sl .ro 1 [.int .i64 0], .sl .ro l.length (rows eA l)], .sl .nil 0 []] = some (.tup [.opt (fA dN (lO l) 1 0 0 0 13), .int .i64 0], []) := by
  have hn := eAn l
  have r7 := eA_ro 6 l
  have r6 := eA_ro 5 l
  have r5 := eA_ro 4 l
  have f := follow_1 l
  have a := clone_a l 1 0 .ro (by omega) hl0
  have b := Clone_nil
  simp -implicitDefEqProofs (maxSteps := 2000000) (disch := omega) only [go_sem, seval, fA, na, dO, dN, dR, bO, lO] at f a
  refine Gf_start rfl rfl ?_
  simp -implicitDefEqProofs (maxSteps := 2000000) (disch := omega) only [go_sem, seval, ]
  refine wp_draw_E ?_
  simp -implicitDefEqProofs (maxSteps := 2000000) (disch := omega) only [go_sem, seval, a, b, hn, r7, r6, r5]
  simp -implicitDefEqProofs (maxSteps := 2000000) (disch := omega) only [go_sem, seval, callr28, f, fA, na, dO, dN, dR, bO, lO, hn, r7, r6, r5]
theorem Hard_a (since heard : Int) (c : Nat) (hl : l.length ≤ 1000) (hl0 : 0 < l.length) : Gf fns 20 [.opt (lA dO (1 : Nat) l c since heard 13)] = some (.agg [.int .i64 1, .int .i64 0, .int .i64 0, .int .i64 0, .str [], bO, lO l], [.opt (lA dO (1 : Nat) l c since heard 13)]) := by
  have hn := eAn l
  have r7 := eA_ro 6 l
  have r6 := eA_ro 5 l
  have r5 := eA_ro 4 l
  have a := clone_a l 1 0 .ro (by omega) hl0
  simp -implicitDefEqProofs (maxSteps := 2000000) (disch := omega) only [go_sem, seval, bO, lO] at a
  refine Gf_start rfl rfl ?_
  simp -implicitDefEqProofs (maxSteps := 2000000) (disch := omega) only [go_sem, seval, lA, na, dO, dN, dR, bO, lO, nO, vA, hn, a, ite_self, r7, r6, r5]
section
variable (term vote role leader commit since heard timeout : Int) (lg dr vs nx mt sn : V)
theorem Role_a : Gf fns 7 [.pt (na (.sl .ro 1 [.int .i64 0]) term vote lg role leader commit since heard timeout dr vs nx mt sn) 0] = some (.int .i64 role, []) := by
  refine Gf_start rfl rfl ?_
  simp -implicitDefEqProofs (disch := omega) only [go_sem, seval, na]
theorem Leader_a : Gf fns 8 [.pt (na (.sl .ro 1 [.int .i64 0]) term vote lg role leader commit since heard timeout dr vs nx mt sn) 0] = some (.int .i64 leader, []) := by
  refine Gf_start rfl rfl ?_
  simp -implicitDefEqProofs (disch := omega) only [go_sem, seval, na]
theorem Commit_a : Gf fns 11 [.pt (na (.sl .ro 1 [.int .i64 0]) term vote lg role leader commit since heard timeout dr vs nx mt sn) 0] = some (.int .i64 commit, []) := by
  refine Gf_start rfl rfl ?_
  simp -implicitDefEqProofs (disch := omega) only [go_sem, seval, na]
theorem Term_a : Gf fns 9 [.pt (na (.sl .ro 1 [.int .i64 0]) term vote lg role leader commit since heard timeout dr vs nx mt sn) 0] = some (.int .i64 term, []) := by
  refine Gf_start rfl rfl ?_
  simp -implicitDefEqProofs (disch := omega) only [go_sem, seval, na]
theorem Entry_a (c i : Nat) (hi : i < l.length) (hc : i < c) (hl : l.length ≤ 1000) (hc2 : c ≤ 1000) : Gf fns 13 [.pt (na (.sl .ro 1 [.int .i64 0]) term vote (.sl .ro l.length (rows eA l)) role leader (c : Int) since heard timeout dr vs nx mt sn) 0, .int .i64 ((i + 1 : Nat) : Int)] = some (.tup [.agg (eA (gt l i)), .bool true], []) := by
  have hn := eAn l
  have hr := eArow l i hi
  have a := CloneA (gt l i)
  have h1 : ¬ c < i + 1 := by omega
  simp -implicitDefEqProofs (disch := omega) only [go_sem, seval, eA] at a hr
  refine Gf_start rfl rfl ?_
  simp -implicitDefEqProofs (disch := omega) only [go_sem, seval, na, dO, dN, dR, h1]
  refine wp_draw_E ?_
  simp -implicitDefEqProofs (disch := omega) only [go_sem, seval, hn, hr, a, eA]
end
end Go.Vm.Ytmcbceppgaljnaa
