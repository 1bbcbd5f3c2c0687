/- (seval) Raft: a replica alone: texts are proposed. -/
import Derived.Test.YtmcbceppgaljnaaRwJ
set_option linter.unusedSectionVars false
set_option linter.unusedSimpArgs false
set_option linter.unusedVariables false
set_option maxHeartbeats 8000000
set_option maxRecDepth 10000
namespace Go.Vm.Ytmcbceppgaljnaa
open Go.Proofs
/-- The entries behind so many texts. -/
def entA (L : List (List UInt8)) (i : Nat) : List EA := (1, []) :: (L.take i).map fun s => (1, s)
theorem entA_len (L : List (List UInt8)) (i : Nat) (h : i ≤ L.length) : (entA L i).length = i + 1 := by simp [entA]; omega
theorem entA_succ (L : List (List UInt8)) (i : Nat) (h : i < L.length) : entA L (i + 1) = entA L i ++ [(1, gt L i)] := by
  unfold entA
  rw [take_gt h]
  simp
def ppS (P : Pm) (i : Nat) (s : St) : Prop := i ≤ P.L.length ∧ i ≤ 40 ∧ s.t 0 = P.a ∧ s.t 3 = .ptr 5244160 P.g 0 ∧ s.t 6 = .int .i64 (i : Int) ∧ WorldAt P.g P.ga P.gm P.gl P.gh 5247424 P.p s.σ ∧ ∃ b, (b = 2176 ∨ b = 5888) ∧ ∃ j h : Int, LeadG P.p b (entA P.L i) j h s.σ
def m4S (P : Pm) (s : St) : Prop := s.t 0 = P.a ∧ s.t 3 = .ptr 5244160 P.g 0 ∧ WorldAt P.g P.ga P.gm P.gl P.gh 5247424 P.p s.σ ∧ ∃ b, (b = 2176 ∨ b = 5888) ∧ ∃ j h : Int, LeadG P.p b (entA P.L (min P.L.length 40)) j h s.σ
theorem loop1_ok (P : Pm) (hL : P.L.length ≤ 100000000000000) (Q : Ex → St → Prop) (hQ : ∀ s, m4S P s → Q (.exit 2) s) (s0 : St) (h : ppS P 0 s0) : wpA (tabW fns) (.loop lp3_1) Q s0 := by
  refine wp_loopS (ppS P) (fun i => 40 - i) 0 h ?_
  rintro i ⟨t, σ⟩ ⟨hi, hi4, t0, t3, t6, ⟨w1, w2, w3⟩, b, hb, j, hh, hs⟩
  simp only at t0 t3 t6 w1 w2 w3 hs
  have w1' := w1
  have t0' := t0
  simp -implicitDefEqProofs (maxSteps := 2000000) (disch := omega) only [go_sem, seval, wB] at w1
  simp -implicitDefEqProofs (maxSteps := 2000000) (disch := omega) only [go_sem, seval, Pm.a] at t0
  by_cases hc : i < P.L.length
  · by_cases hc4 : i < 40
    · have hl := entA_len P.L i hi
      have hs1 := entA_succ P.L i hc
      have hl1 := entA_len P.L (i + 1) (by omega)
      generalize entA P.L i = l at *
      have hn := eAn l
      have r7 := eA_ro 6 l
      have r6 := eA_ro 5 l
      have r5 := eA_ro 4 l
      have c := Propose_a j hh l (gt P.L i) (by omega) (by omega)
      have hn1 : (rows eA l ++ [V.int .i64 1, .str (gt P.L i), .bool false, .sl .nil 0 []]).length = (l.length + 1) * 4 := by simp [hn]; omega
      have q7 : (rows eA l ++ [V.int .i64 1, .str (gt P.L i), .bool false, .sl .nil 0 []]).any (hasRo 7) = false := eA_snoc l (1, gt P.L i) ▸ eA_ro 6 _
      have q6 : (rows eA l ++ [V.int .i64 1, .str (gt P.L i), .bool false, .sl .nil 0 []]).any (hasRo 6) = false := eA_snoc l (1, gt P.L i) ▸ eA_ro 5 _
      have q5 : (rows eA l ++ [V.int .i64 1, .str (gt P.L i), .bool false, .sl .nil 0 []]).any (hasRo 5) = false := eA_snoc l (1, gt P.L i) ▸ eA_ro 4 _
      simp -implicitDefEqProofs (maxSteps := 2000000) (disch := omega) only [go_sem, seval, lA, na, dO, dN, dR, bO, lO, nO, vA, eA_snoc, List.length_append, List.length_cons, List.length_nil, hl] at c
      rw [hl] at hn1 hn
      obtain ⟨s, s0, s1, s2, s3, s4, s5, s6⟩ := hs
      have cm := Commit_a 1 0 3 0 ((i + 1 + 1 : Nat) : Int) 0 hh 13 (.sl .ro (i + 1 + 1) (rows eA l ++ [V.int .i64 1, .str (gt P.L i), .bool false, .sl .nil 0 []])) (.sl .ro 0 []) (.rmp vA) (.rmp []) (.rmp []) (.rmp [])
      simp -implicitDefEqProofs (maxSteps := 2000000) (disch := omega) only [go_sem, seval, na, vA] at cm
      simp -implicitDefEqProofs (maxSteps := 2000000) (disch := omega) only [go_sem, seval, na, hl] at s
      simp -implicitDefEqProofs (maxSteps := 2000000) (disch := omega) only [go_sem, seval, vA] at s3
      rcases hb with rfl | rfl
      · simp -implicitDefEqProofs (maxSteps := 2000000) (disch := omega) only [go_sem, seval, ] at s s0 s1 s2 s3 s4 s5 s6
        generalize (σ 2176).gen = g0 at s s0
        generalize (σ 2177).gen = g1 at s s1
        generalize (σ 2178).gen = g2 at s s2
        generalize (σ 2179).gen = g3 at s s3
        generalize (σ 2180).gen = g4 at s s4
        generalize (σ 2181).gen = g5 at s s5
        generalize (σ 2182).gen = g6 at s s6
        simp -implicitDefEqProofs (maxSteps := 2000000) (disch := omega) only [go_sem, seval, lp3_1, t0, t6, hc, hc4]
        refine wp_draw_E ?_
        simp -implicitDefEqProofs (maxSteps := 2000000) (disch := omega) only [go_sem, seval, t0, t3, t6, hc, w1, w2, call10, s, s0, s1, s2, s3, s4, s5, s6, c, hn, hn1, r7, r6, r5, q7, q6, q5]
        simp -implicitDefEqProofs (maxSteps := 2000000) (disch := omega) only [go_sem, seval, t3, t6, w1, w2, cm, hn, hn1, r7, r6, r5, q7, q6, q5]
        exact ⟨i + 1, by omega, by omega, by omega, by simp -implicitDefEqProofs (maxSteps := 2000000) (disch := omega) only [go_sem, seval, t0'], by simp -implicitDefEqProofs (maxSteps := 2000000) (disch := omega) only [go_sem, seval, t3], by simp -implicitDefEqProofs (maxSteps := 2000000) (disch := omega) only [go_sem, seval, ], ⟨by simp -implicitDefEqProofs (maxSteps := 2000000) (disch := omega) only [go_sem, seval, w1'], by simp -implicitDefEqProofs (maxSteps := 2000000) (disch := omega) only [go_sem, seval, w2], by simp -implicitDefEqProofs (maxSteps := 2000000) (disch := omega) only [go_sem, seval, w3]⟩, 5888, .inr rfl, 0, hh, by simp -implicitDefEqProofs (maxSteps := 2000000) (disch := omega) only [go_sem, seval, hl1, na], by simp -implicitDefEqProofs (maxSteps := 2000000) (disch := omega) only [go_sem, seval, ], by simp -implicitDefEqProofs (maxSteps := 2000000) (disch := omega) only [go_sem, seval, hs1, eA_snoc], by simp -implicitDefEqProofs (maxSteps := 2000000) (disch := omega) only [go_sem, seval, ], by simp -implicitDefEqProofs (maxSteps := 2000000) (disch := omega) only [go_sem, seval, vA], by simp -implicitDefEqProofs (maxSteps := 2000000) (disch := omega) only [go_sem, seval, ], by simp -implicitDefEqProofs (maxSteps := 2000000) (disch := omega) only [go_sem, seval, ], by simp -implicitDefEqProofs (maxSteps := 2000000) (disch := omega) only [go_sem, seval, ]⟩
      · simp -implicitDefEqProofs (maxSteps := 2000000) (disch := omega) only [go_sem, seval, ] at s s0 s1 s2 s3 s4 s5 s6
        generalize (σ 5888).gen = g0 at s s0
        generalize (σ 5889).gen = g1 at s s1
        generalize (σ 5890).gen = g2 at s s2
        generalize (σ 5891).gen = g3 at s s3
        generalize (σ 5892).gen = g4 at s s4
        generalize (σ 5893).gen = g5 at s s5
        generalize (σ 5894).gen = g6 at s s6
        simp -implicitDefEqProofs (maxSteps := 2000000) (disch := omega) only [go_sem, seval, lp3_1, t0, t6, hc, hc4]
        refine wp_draw_E ?_
        simp -implicitDefEqProofs (maxSteps := 2000000) (disch := omega) only [go_sem, seval, t0, t3, t6, hc, w1, w2, call10, s, s0, s1, s2, s3, s4, s5, s6, c, hn, hn1, r7, r6, r5, q7, q6, q5]
        simp -implicitDefEqProofs (maxSteps := 2000000) (disch := omega) only [go_sem, seval, t3, t6, w1, w2, cm, hn, hn1, r7, r6, r5, q7, q6, q5]
        exact ⟨i + 1, by omega, by omega, by omega, by simp -implicitDefEqProofs (maxSteps := 2000000) (disch := omega) only [go_sem, seval, t0'], by simp -implicitDefEqProofs (maxSteps := 2000000) (disch := omega) only [go_sem, seval, t3], by simp -implicitDefEqProofs (maxSteps := 2000000) (disch := omega) only [go_sem, seval, ], ⟨by simp -implicitDefEqProofs (maxSteps := 2000000) (disch := omega) only [go_sem, seval, w1'], by simp -implicitDefEqProofs (maxSteps := 2000000) (disch := omega) only [go_sem, seval, w2], by simp -implicitDefEqProofs (maxSteps := 2000000) (disch := omega) only [go_sem, seval, w3]⟩, 5888, .inr rfl, 0, hh, by simp -implicitDefEqProofs (maxSteps := 2000000) (disch := omega) only [go_sem, seval, hl1, na], by simp -implicitDefEqProofs (maxSteps := 2000000) (disch := omega) only [go_sem, seval, ], by simp -implicitDefEqProofs (maxSteps := 2000000) (disch := omega) only [go_sem, seval, hs1, eA_snoc], by simp -implicitDefEqProofs (maxSteps := 2000000) (disch := omega) only [go_sem, seval, ], by simp -implicitDefEqProofs (maxSteps := 2000000) (disch := omega) only [go_sem, seval, vA], by simp -implicitDefEqProofs (maxSteps := 2000000) (disch := omega) only [go_sem, seval, ], by simp -implicitDefEqProofs (maxSteps := 2000000) (disch := omega) only [go_sem, seval, ], by simp -implicitDefEqProofs (maxSteps := 2000000) (disch := omega) only [go_sem, seval, ]⟩
    · simp -implicitDefEqProofs (maxSteps := 2000000) (disch := omega) only [go_sem, seval, lp3_1, t0, t6, hc, hc4]
      have e : min P.L.length 40 = i := by omega
      exact hQ _ ⟨by simp -implicitDefEqProofs (maxSteps := 2000000) (disch := omega) only [go_sem, seval, t0'], by simp -implicitDefEqProofs (maxSteps := 2000000) (disch := omega) only [go_sem, seval, t3], ⟨by simp -implicitDefEqProofs (maxSteps := 2000000) (disch := omega) only [go_sem, seval, w1'], by simp -implicitDefEqProofs (maxSteps := 2000000) (disch := omega) only [go_sem, seval, w2], by simp -implicitDefEqProofs (maxSteps := 2000000) (disch := omega) only [go_sem, seval, w3]⟩, b, hb, j, hh, by rw [e]; exact hs⟩
  · simp -implicitDefEqProofs (maxSteps := 2000000) (disch := omega) only [go_sem, seval, lp3_1, t0, t6, hc]
    have e : min P.L.length 40 = i := by omega
    exact hQ _ ⟨by simp -implicitDefEqProofs (maxSteps := 2000000) (disch := omega) only [go_sem, seval, t0'], by simp -implicitDefEqProofs (maxSteps := 2000000) (disch := omega) only [go_sem, seval, t3], ⟨by simp -implicitDefEqProofs (maxSteps := 2000000) (disch := omega) only [go_sem, seval, w1'], by simp -implicitDefEqProofs (maxSteps := 2000000) (disch := omega) only [go_sem, seval, w2], by simp -implicitDefEqProofs (maxSteps := 2000000) (disch := omega) only [go_sem, seval, w3]⟩, b, hb, j, hh, by rw [e]; exact hs⟩
end Go.Vm.Ytmcbceppgaljnaa
