/- (seval) Raft: a replica alone loses its power, and stands up. -/
import Derived.Test.YtmcbceppgaljnaaRwH
set_option linter.unusedSectionVars false
set_option linter.unusedSimpArgs false
set_option linter.unusedVariables false
set_option maxHeartbeats 4000000
set_option maxRecDepth 10000
namespace Go.Vm.Ytmcbceppgaljnaa
open Go.Proofs
variable {σ : Store}
/-- The world, and where its one replica is. -/
def WorldAt (g ga gm gl gh : Nat) (nd p : Nat) (σ : Store) : Prop := σ 5244160 = ⟨g, .rw, false, wB ga gm gl gh⟩ ∧ σ 5248576 = ⟨ga, .rw, false, [.ptr nd p 0]⟩ ∧ σ 5248960 = ⟨gh, .rw, true, [.int .i64 0]⟩
/-- One that leads, in its first term, whose rows are the blocks from b on. -/
def LeadAt (p b : Nat) (l : List EA) (since heard : Int) (σ : Store) : Prop := ∃ g0 g1 g2 g3 g4 g5 g6, σ 5247424 = ⟨p, .rw, false, na (.sli b g0 0 1 1) 1 0 (.sli (b + 1) g1 0 l.length 4) 3 0 l.length since heard 13 (.sli (b + 2) g2 0 0 1) (.mp (b + 3) g3) (.mp (b + 4) g4) (.mp (b + 5) g5) (.mp (b + 6) g6)⟩ ∧
  σ b = ⟨g0, .rw, true, [.int .i64 0]⟩ ∧ σ (b + 1) = ⟨g1, .rw, true, rows eA l⟩ ∧ σ (b + 2) = ⟨g2, .rw, true, []⟩ ∧ σ (b + 3) = ⟨g3, .rw, false, [.mcell vA]⟩ ∧ σ (b + 4) = ⟨g4, .rw, false, [.mcell []]⟩ ∧ σ (b + 5) = ⟨g5, .rw, false, [.mcell []]⟩ ∧ σ (b + 6) = ⟨g6, .rw, false, [.mcell []]⟩
def OneQ (g ga gm gl gh : Nat) (l : List EA) (q : V × Store) : Prop := ∃ p gb ge, q.1 = .bool true ∧ WorldAt g ga gm gl gh 13648320 p q.2 ∧
  q.2 13648320 = ⟨p, .rw, false, na (.sli 13648321 gb 0 1 1) 1 0 (.sli 13648322 ge 0 l.length 4) 1 (-1) 0 0 0 13 (.sl .nil 0 []) .nilm .nilm .nilm .nilm⟩ ∧
  q.2 13648321 = ⟨gb, .rw, true, [.int .i64 0]⟩ ∧ q.2 13648322 = ⟨ge, .rw, true, rows eA l⟩
theorem one_ok {g ga gm gl gh p b : Nat} {l : List EA} {since heard : Int} (hl : l.length ≤ 1000) (hl0 : 0 < l.length) (hw : WorldAt g ga gm gl gh 5247424 p σ) (hn : LeadAt p b l since heard σ) (hb : b = 2176 ∨ b = 5888) :
    ∃ v σ', Hf fns 12 [.ptr 5244160 g 0, .agg [.int .i64 10, .int .i64 0, .int .i64 0], .int .i64 0] σ = some (v, σ') ∧ OneQ g ga gm gl gh l (v, σ') := by
  have hln := eAn l
  have r7 := eA_ro 6 l
  have r6 := eA_ro 5 l
  have r5 := eA_ro 4 l
  have n := New_l l hl hl0
  have h := Hard_a l since heard l.length hl hl0
  have c := Commit_a 1 0 1 (-1) 0 0 0 13 (.sl .ro l.length (rows eA l)) (.sl .nil 0 []) .nilm .nilm .nilm .nilm
  simp -implicitDefEqProofs (maxSteps := 2000000) (disch := omega) only [go_sem, seval, na] at c
  simp -implicitDefEqProofs (maxSteps := 2000000) (disch := omega) only [go_sem, seval, fA, na, dO, dN, bO, lO] at n
  simp -implicitDefEqProofs (maxSteps := 2000000) (disch := omega) only [go_sem, seval, lA, na, dO, dN, bO, lO, vA] at h
  obtain ⟨w1, w2, w3⟩ := hw
  obtain ⟨g0, g1, g2, g3, g4, g5, g6, s, s0, s1, s2, s3, s4, s5, s6⟩ := hn
  simp -implicitDefEqProofs (maxSteps := 2000000) (disch := omega) only [go_sem, seval, wB] at w1
  simp -implicitDefEqProofs (maxSteps := 2000000) (disch := omega) only [go_sem, seval, na] at s
  simp -implicitDefEqProofs (maxSteps := 2000000) (disch := omega) only [go_sem, seval, vA] at s3
  refine Hf_start (f := 12) rfl rfl ?_
  have f1 : Int.tmod 0 1 = 0 := rfl
  have f2 : Int.tmod 1 1 = 0 := rfl
  have f3 : IntKind.i64.wrap 1 = 1 := rfl
  have f4 : IntKind.i64.wrap 0 = 0 := rfl
  simp -implicitDefEqProofs (maxSteps := 2000000) (disch := omega) only [go_sem, seval, w1, w2, w3]
  refine wp_draw_E ?_
  simp -implicitDefEqProofs (maxSteps := 2000000) (disch := omega) only [go_sem, seval, w1, w2, w3, f1, f2, f3, f4]
  refine wp_draw_E ?_
  simp -implicitDefEqProofs (maxSteps := 2000000) (disch := omega) only [go_sem, seval, w1, w2, w3, f1, f2, f3, f4]
  rcases hb with rfl | rfl
  · simp -implicitDefEqProofs (maxSteps := 2000000) (disch := omega) only [go_sem, seval, w1, w2, w3, s, s0, s1, s2, s3, s4, s5, s6, callr20, h, hln, r7, r6, r5]
    simp -implicitDefEqProofs (maxSteps := 2000000) (disch := omega) only [go_sem, seval, callr14, n, hln, r7, r6, r5, w1, w2, w3]
    refine wp_draw_E ?_
    simp -implicitDefEqProofs (maxSteps := 2000000) (disch := omega) only [go_sem, seval, w1, w2, w3, hln, c, r7, r6, r5]
    exact ⟨(σ 13648320).gen + 1, (σ 13648321).gen + 1, (σ 13648322).gen + 1, rfl, ⟨by simp -implicitDefEqProofs (maxSteps := 2000000) (disch := omega) only [go_sem, seval, w1, wB], by simp -implicitDefEqProofs (maxSteps := 2000000) (disch := omega) only [go_sem, seval, w2], by simp -implicitDefEqProofs (maxSteps := 2000000) (disch := omega) only [go_sem, seval, w3]⟩, by simp -implicitDefEqProofs (maxSteps := 2000000) (disch := omega) only [go_sem, seval, na], by simp -implicitDefEqProofs (maxSteps := 2000000) (disch := omega) only [go_sem, seval, ], by simp -implicitDefEqProofs (maxSteps := 2000000) (disch := omega) only [go_sem, seval, ]⟩
  · simp -implicitDefEqProofs (maxSteps := 2000000) (disch := omega) only [go_sem, seval, w1, w2, w3, s, s0, s1, s2, s3, s4, s5, s6, callr20, h, hln, r7, r6, r5]
    simp -implicitDefEqProofs (maxSteps := 2000000) (disch := omega) only [go_sem, seval, callr14, n, hln, r7, r6, r5, w1, w2, w3]
    refine wp_draw_E ?_
    simp -implicitDefEqProofs (maxSteps := 2000000) (disch := omega) only [go_sem, seval, w1, w2, w3, hln, c, r7, r6, r5]
    exact ⟨(σ 13648320).gen + 1, (σ 13648321).gen + 1, (σ 13648322).gen + 1, rfl, ⟨by simp -implicitDefEqProofs (maxSteps := 2000000) (disch := omega) only [go_sem, seval, w1, wB], by simp -implicitDefEqProofs (maxSteps := 2000000) (disch := omega) only [go_sem, seval, w2], by simp -implicitDefEqProofs (maxSteps := 2000000) (disch := omega) only [go_sem, seval, w3]⟩, by simp -implicitDefEqProofs (maxSteps := 2000000) (disch := omega) only [go_sem, seval, na], by simp -implicitDefEqProofs (maxSteps := 2000000) (disch := omega) only [go_sem, seval, ], by simp -implicitDefEqProofs (maxSteps := 2000000) (disch := omega) only [go_sem, seval, ]⟩
end Go.Vm.Ytmcbceppgaljnaa
