/- (seval) Raft: one replica leads alone. -/
import Derived.Test.YtmcbceppgaljnaaRaftD
set_option linter.unusedSectionVars false
set_option linter.unusedSimpArgs false
set_option linter.unusedVariables false
set_option maxHeartbeats 4000000
set_option maxRecDepth 10000
namespace Go.Vm.Ytmcbceppgaljnaa
open Go.Proofs
def stA (i : Nat) (σ : Store) : Prop := i ≤ 9 ∧ ∃ q, (q = 833 ∨ q = 1728) ∧ σ 832 = ⟨1, .rw, false, nd (.sli q (σ q).gen 0 1 1) 0 (-1) noV 1 (-1) 0 i i 10 .nilm .nilm .nilm .nilm⟩ ∧ σ q = ⟨(σ q).gen, .rw, true, [.int .i64 0]⟩
def stB (i : Nat) (σ : Store) : Prop := 10 ≤ i ∧ ∃ s : Nat, s ≤ 2 ∧ σ 832 = ⟨1, .rw, false, nd (.sli 1728 (σ 1728).gen 0 1 1) 1 0 (.sli 1729 (σ 1729).gen 0 1 4) 3 0 1 s i 13 (.mp 1730 (σ 1730).gen) (.mp 1731 (σ 1731).gen) (.mp 1732 (σ 1732).gen) (.mp 1733 (σ 1733).gen)⟩ ∧ σ 1728 = ⟨(σ 1728).gen, .rw, true, [.int .i64 0]⟩ ∧ σ 1729 = ⟨(σ 1729).gen, .rw, true, e1⟩ ∧ σ 1730 = ⟨(σ 1730).gen, .rw, false, [.mcell vt]⟩ ∧ σ 1731 = ⟨(σ 1731).gen, .rw, false, [.mcell []]⟩ ∧ σ 1732 = ⟨(σ 1732).gen, .rw, false, [.mcell []]⟩ ∧ σ 1733 = ⟨(σ 1733).gen, .rw, false, [.mcell []]⟩
def awS (i : Nat) (s : St) : Prop := i ≤ 40 ∧ s.t 1 = .ptr 832 1 0 ∧ s.t 3 = .int .i64 (i : Int) ∧ (stA i s.σ ∨ stB i s.σ)
theorem awake_ok : Gf fns 6 [] = some (.bool true, []) := by
  have n := New_0
  simp -implicitDefEqProofs (maxSteps := 2000000) (disch := omega) only [go_sem, seval, ndF, nd, bcO, noV] at n
  refine Gf_start rfl rfl ?_
  simp -implicitDefEqProofs (maxSteps := 2000000) (disch := omega) only [go_sem, seval, callr14, n]
  refine wp_loopS awS (fun i => 40 - i) 0 ⟨by omega, by simp -implicitDefEqProofs (maxSteps := 2000000) (disch := omega) only [go_sem, seval, ], by simp -implicitDefEqProofs (maxSteps := 2000000) (disch := omega) only [go_sem, seval, ], .inl ⟨by omega, 833, .inl rfl, by simp -implicitDefEqProofs (maxSteps := 2000000) (disch := omega) only [go_sem, seval, nd, noV], by simp -implicitDefEqProofs (maxSteps := 2000000) (disch := omega) only [go_sem, seval, ]⟩⟩ ?_
  rintro i ⟨t, σ⟩ ⟨hi, h1, h3, hs⟩
  simp only at h1 h3 hs
  simp -implicitDefEqProofs (maxSteps := 2000000) (disch := omega) only [go_sem, seval, lp6_0, h3]
  refine condC_dec (fun hc => ?_) (fun hc => ?_)
  · rcases hs with ⟨h9, q, hq, s1, s2⟩ | ⟨h10, s, hs2, s1, s2, s3, s4, s5, s6, s7⟩
    · simp -implicitDefEqProofs (maxSteps := 2000000) (disch := omega) only [go_sem, seval, nd, noV] at s1
      generalize hg : (σ q).gen = g at s1 s2
      by_cases h8 : i = 9
      · subst h8
        have c := Tick_c 9 (by omega)
        simp -implicitDefEqProofs (maxSteps := 2000000) (disch := omega) only [go_sem, seval, ndF, ndL, nd, bcO, noV, l1O, e1, vt] at c
        rcases hq with rfl | rfl
        · simp -implicitDefEqProofs (maxSteps := 2000000) (disch := omega) only [go_sem, seval, h1, h3, callr5, s1, s2, c]
          exact ⟨10, by omega, by omega, by simp -implicitDefEqProofs (maxSteps := 2000000) (disch := omega) only [go_sem, seval, h1], by simp -implicitDefEqProofs (maxSteps := 2000000) (disch := omega) only [go_sem, seval, ], .inr ⟨by omega, 0, by omega, by simp -implicitDefEqProofs (maxSteps := 2000000) (disch := omega) only [go_sem, seval, nd, noV], by simp -implicitDefEqProofs (maxSteps := 2000000) (disch := omega) only [go_sem, seval, ], by simp -implicitDefEqProofs (maxSteps := 2000000) (disch := omega) only [go_sem, seval, e1], by simp -implicitDefEqProofs (maxSteps := 2000000) (disch := omega) only [go_sem, seval, vt], by simp -implicitDefEqProofs (maxSteps := 2000000) (disch := omega) only [go_sem, seval, ], by simp -implicitDefEqProofs (maxSteps := 2000000) (disch := omega) only [go_sem, seval, ], by simp -implicitDefEqProofs (maxSteps := 2000000) (disch := omega) only [go_sem, seval, ]⟩⟩
        · simp -implicitDefEqProofs (maxSteps := 2000000) (disch := omega) only [go_sem, seval, h1, h3, callr5, s1, s2, c]
          exact ⟨10, by omega, by omega, by simp -implicitDefEqProofs (maxSteps := 2000000) (disch := omega) only [go_sem, seval, h1], by simp -implicitDefEqProofs (maxSteps := 2000000) (disch := omega) only [go_sem, seval, ], .inr ⟨by omega, 0, by omega, by simp -implicitDefEqProofs (maxSteps := 2000000) (disch := omega) only [go_sem, seval, nd, noV], by simp -implicitDefEqProofs (maxSteps := 2000000) (disch := omega) only [go_sem, seval, ], by simp -implicitDefEqProofs (maxSteps := 2000000) (disch := omega) only [go_sem, seval, e1], by simp -implicitDefEqProofs (maxSteps := 2000000) (disch := omega) only [go_sem, seval, vt], by simp -implicitDefEqProofs (maxSteps := 2000000) (disch := omega) only [go_sem, seval, ], by simp -implicitDefEqProofs (maxSteps := 2000000) (disch := omega) only [go_sem, seval, ], by simp -implicitDefEqProofs (maxSteps := 2000000) (disch := omega) only [go_sem, seval, ]⟩⟩
      · have c := Tick_f i i (by omega) (by omega)
        simp -implicitDefEqProofs (maxSteps := 2000000) (disch := omega) only [go_sem, seval, ndF, nd, bcO, noV] at c
        rcases hq with rfl | rfl
        · simp -implicitDefEqProofs (maxSteps := 2000000) (disch := omega) only [go_sem, seval, h1, h3, callr5, s1, s2, c]
          exact ⟨i + 1, by omega, by omega, by simp -implicitDefEqProofs (maxSteps := 2000000) (disch := omega) only [go_sem, seval, h1], by simp -implicitDefEqProofs (maxSteps := 2000000) (disch := omega) only [go_sem, seval, ], .inl ⟨by omega, 1728, .inr rfl, by simp -implicitDefEqProofs (maxSteps := 2000000) (disch := omega) only [go_sem, seval, nd, noV], by simp -implicitDefEqProofs (maxSteps := 2000000) (disch := omega) only [go_sem, seval, ]⟩⟩
        · simp -implicitDefEqProofs (maxSteps := 2000000) (disch := omega) only [go_sem, seval, h1, h3, callr5, s1, s2, c]
          exact ⟨i + 1, by omega, by omega, by simp -implicitDefEqProofs (maxSteps := 2000000) (disch := omega) only [go_sem, seval, h1], by simp -implicitDefEqProofs (maxSteps := 2000000) (disch := omega) only [go_sem, seval, ], .inl ⟨by omega, 1728, .inr rfl, by simp -implicitDefEqProofs (maxSteps := 2000000) (disch := omega) only [go_sem, seval, nd, noV], by simp -implicitDefEqProofs (maxSteps := 2000000) (disch := omega) only [go_sem, seval, ]⟩⟩
    · simp -implicitDefEqProofs (maxSteps := 2000000) (disch := omega) only [go_sem, seval, nd, noV] at s1
      generalize (σ 1728).gen = g1 at s1 s2
      generalize (σ 1729).gen = g2 at s1 s3
      generalize (σ 1730).gen = g3 at s1 s4
      generalize (σ 1731).gen = g4 at s1 s5
      generalize (σ 1732).gen = g5 at s1 s6
      generalize (σ 1733).gen = g6 at s1 s7
      simp -implicitDefEqProofs (maxSteps := 2000000) (disch := omega) only [go_sem, seval, e1] at s3
      simp -implicitDefEqProofs (maxSteps := 2000000) (disch := omega) only [go_sem, seval, vt] at s4
      by_cases h8 : s = 2
      · subst h8
        have c := Tick_t i (by omega)
        simp -implicitDefEqProofs (maxSteps := 2000000) (disch := omega) only [go_sem, seval, ndL, nd, bcO, noV, l1O, e1, vt] at c
        simp -implicitDefEqProofs (maxSteps := 2000000) (disch := omega) only [go_sem, seval, h1, h3, callr5, s1, s2, s3, s4, s5, s6, s7, c]
        exact ⟨i + 1, by omega, by omega, by simp -implicitDefEqProofs (maxSteps := 2000000) (disch := omega) only [go_sem, seval, h1], by simp -implicitDefEqProofs (maxSteps := 2000000) (disch := omega) only [go_sem, seval, ], .inr ⟨by omega, 0, by omega, by simp -implicitDefEqProofs (maxSteps := 2000000) (disch := omega) only [go_sem, seval, nd, noV], by simp -implicitDefEqProofs (maxSteps := 2000000) (disch := omega) only [go_sem, seval, ], by simp -implicitDefEqProofs (maxSteps := 2000000) (disch := omega) only [go_sem, seval, e1], by simp -implicitDefEqProofs (maxSteps := 2000000) (disch := omega) only [go_sem, seval, vt], by simp -implicitDefEqProofs (maxSteps := 2000000) (disch := omega) only [go_sem, seval, ], by simp -implicitDefEqProofs (maxSteps := 2000000) (disch := omega) only [go_sem, seval, ], by simp -implicitDefEqProofs (maxSteps := 2000000) (disch := omega) only [go_sem, seval, ]⟩⟩
      · have c := Tick_l s i (by omega) (by omega)
        simp -implicitDefEqProofs (maxSteps := 2000000) (disch := omega) only [go_sem, seval, ndL, nd, bcO, noV, l1O, e1, vt] at c
        simp -implicitDefEqProofs (maxSteps := 2000000) (disch := omega) only [go_sem, seval, h1, h3, callr5, s1, s2, s3, s4, s5, s6, s7, c]
        exact ⟨i + 1, by omega, by omega, by simp -implicitDefEqProofs (maxSteps := 2000000) (disch := omega) only [go_sem, seval, h1], by simp -implicitDefEqProofs (maxSteps := 2000000) (disch := omega) only [go_sem, seval, ], .inr ⟨by omega, s + 1, by omega, by simp -implicitDefEqProofs (maxSteps := 2000000) (disch := omega) only [go_sem, seval, nd, noV], by simp -implicitDefEqProofs (maxSteps := 2000000) (disch := omega) only [go_sem, seval, ], by simp -implicitDefEqProofs (maxSteps := 2000000) (disch := omega) only [go_sem, seval, e1], by simp -implicitDefEqProofs (maxSteps := 2000000) (disch := omega) only [go_sem, seval, vt], by simp -implicitDefEqProofs (maxSteps := 2000000) (disch := omega) only [go_sem, seval, ], by simp -implicitDefEqProofs (maxSteps := 2000000) (disch := omega) only [go_sem, seval, ], by simp -implicitDefEqProofs (maxSteps := 2000000) (disch := omega) only [go_sem, seval, ]⟩⟩
  · rcases hs with ⟨h9, _⟩ | ⟨h10, s, hs2, s1, s2, s3, s4, s5, s6, s7⟩
    · omega
    simp -implicitDefEqProofs (maxSteps := 2000000) (disch := omega) only [go_sem, seval, nd, noV] at s1
    generalize (σ 1728).gen = g1 at s1 s2
    generalize (σ 1729).gen = g2 at s1 s3
    generalize (σ 1730).gen = g3 at s1 s4
    generalize (σ 1731).gen = g4 at s1 s5
    generalize (σ 1732).gen = g5 at s1 s6
    generalize (σ 1733).gen = g6 at s1 s7
    simp -implicitDefEqProofs (maxSteps := 2000000) (disch := omega) only [go_sem, seval, e1] at s3
    simp -implicitDefEqProofs (maxSteps := 2000000) (disch := omega) only [go_sem, seval, vt] at s4
    have p := Propose_ok s i
    have e := Entry_ok 0 i
    have r := Role_ok 0 i
    simp -implicitDefEqProofs (maxSteps := 2000000) (disch := omega) only [go_sem, seval, ndL, nd, bcO, noV, l1O, l2O, e1, e2, vt] at p
    simp -implicitDefEqProofs (maxSteps := 2000000) (disch := omega) only [go_sem, seval, nd, bcR, l2R, e1, e2, vt] at e r
    simp -implicitDefEqProofs (maxSteps := 2000000) (disch := omega) only [go_sem, seval, h1]
    simp -implicitDefEqProofs (maxSteps := 2000000) (disch := omega) only [go_sem, seval, h1, callr10, s1, s2, s3, s4, s5, s6, s7, p, e, r]
end Go.Vm.Ytmcbceppgaljnaa
