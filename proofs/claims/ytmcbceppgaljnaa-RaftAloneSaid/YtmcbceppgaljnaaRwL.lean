/- (seval) Raft: a replica alone: behind a loss of power. -/
import Derived.Test.YtmcbceppgaljnaaRwK
set_option linter.unusedSectionVars false
set_option linter.unusedSimpArgs false
set_option linter.unusedVariables false
set_option maxHeartbeats 8000000
set_option maxRecDepth 10000
namespace Go.Vm.Ytmcbceppgaljnaa
open Go.Proofs
/-- One that follows, behind a loss of power; that leads again. -/
def FolH (p q : Nat) (l : List EA) (i : Nat) (σ : Store) : Prop := σ 13648320 = ⟨p, .rw, false, na (.sli q (σ q).gen 0 1 1) 1 0 (.sli (q + 1) (σ (q + 1)).gen 0 l.length 4) 1 (-1) 0 i i 13 (.sl .nil 0 []) .nilm .nilm .nilm .nilm⟩ ∧ σ q = ⟨(σ q).gen, .rw, true, [.int .i64 0]⟩ ∧ σ (q + 1) = ⟨(σ (q + 1)).gen, .rw, true, rows eA l⟩
def LeadH (p : Nat) (l : List EA) (since heard : Int) (σ : Store) : Prop := σ 13648320 = ⟨p, .rw, false, na (.sli 9408 (σ 9408).gen 0 1 1) 2 0 (.sli 9409 (σ 9409).gen 0 l.length 4) 3 0 l.length since heard 16 (.sl .nil 0 []) (.mp 9410 (σ 9410).gen) (.mp 9411 (σ 9411).gen) (.mp 9412 (σ 9412).gen) (.mp 9413 (σ 9413).gen)⟩ ∧
  σ 9408 = ⟨(σ 9408).gen, .rw, true, [.int .i64 0]⟩ ∧ σ 9409 = ⟨(σ 9409).gen, .rw, true, rows eA l⟩ ∧ σ 9410 = ⟨(σ 9410).gen, .rw, false, [.mcell vA]⟩ ∧ σ 9411 = ⟨(σ 9411).gen, .rw, false, [.mcell []]⟩ ∧ σ 9412 = ⟨(σ 9412).gen, .rw, false, [.mcell []]⟩ ∧ σ 9413 = ⟨(σ 9413).gen, .rw, false, [.mcell []]⟩
theorem LeadH.frame {p : Nat} {l : List EA} {j h : Int} {σ σ' : Store} (hs : LeadH p l j h σ) (f : σ' 13648320 = σ 13648320) (f0 : σ' 9408 = σ 9408) (f1 : σ' 9409 = σ 9409) (f2 : σ' 9410 = σ 9410) (f3 : σ' 9411 = σ 9411) (f4 : σ' 9412 = σ 9412) (f5 : σ' 9413 = σ 9413) : LeadH p l j h σ' := by
  unfold LeadH at *
  rw [f, f0, f1, f2, f3, f4, f5]
  exact hs
def tk2S (P : Pm) (l : List EA) (i : Nat) (s : St) : Prop := i ≤ 40 ∧ s.t 0 = P.a ∧ s.t 3 = .ptr 5244160 P.g 0 ∧ s.t 10 = .int .i64 (min P.L.length 40 : Nat) ∧ s.t 11 = .int .i64 (i : Int) ∧ WorldAt P.g P.ga P.gm P.gl P.gh 13648320 P.p s.σ ∧
  ((i ≤ 12 ∧ ∃ q, (q = 13648321 ∨ q = 9408) ∧ FolH P.p q l i s.σ) ∨ (13 ≤ i ∧ ∃ j : Nat, j ≤ 2 ∧ LeadH P.p (l ++ [(2, [])]) j i s.σ))
def m6S (P : Pm) (l : List EA) (s : St) : Prop := s.t 0 = P.a ∧ s.t 3 = .ptr 5244160 P.g 0 ∧ s.t 10 = .int .i64 (min P.L.length 40 : Nat) ∧ WorldAt P.g P.ga P.gm P.gl P.gh 13648320 P.p s.σ ∧ ∃ j h : Int, LeadH P.p (l ++ [(2, [])]) j h s.σ
theorem loop2_ok (P : Pm) (l : List EA) (hll : l.length ≤ 41) (Q : Ex → St → Prop) (hQ : ∀ s, m6S P l s → Q (.exit 4) s) (s0 : St) (h : tk2S P l 0 s0) : wpA (tabW fns) (.loop lp3_2) Q s0 := by
  have hl' : (l ++ [((2 : Int), ([] : List UInt8))]).length = l.length + 1 := by simp
  have hn := eAn l
  have r7 := eA_ro 6 l
  have r6 := eA_ro 5 l
  have r5 := eA_ro 4 l
  have hn1 : (rows eA l ++ [V.int .i64 2, .str [], .bool false, .sl .nil 0 []]).length = (l.length + 1) * 4 := by simp [hn]; omega
  have q7 : (rows eA l ++ [V.int .i64 2, .str [], .bool false, .sl .nil 0 []]).any (hasRo 7) = false := eA_snoc l (2, []) ▸ eA_ro 6 _
  have q6 : (rows eA l ++ [V.int .i64 2, .str [], .bool false, .sl .nil 0 []]).any (hasRo 6) = false := eA_snoc l (2, []) ▸ eA_ro 5 _
  have q5 : (rows eA l ++ [V.int .i64 2, .str [], .bool false, .sl .nil 0 []]).any (hasRo 5) = false := eA_snoc l (2, []) ▸ eA_ro 4 _
  refine wp_loopS (tk2S P l) (fun i => 40 - i) 0 h ?_
  rintro i ⟨t, σ⟩ ⟨hi, t0, t3, t10, t11, ⟨w1, w2, w3⟩, hs⟩
  simp only at t0 t3 t10 t11 w1 w2 w3 hs
  have w1' := w1
  simp -implicitDefEqProofs (maxSteps := 2000000) (disch := omega) only [go_sem, seval, wB] at w1
  by_cases hc : i < 40
  · simp -implicitDefEqProofs (maxSteps := 2000000) (disch := omega) only [go_sem, seval, lp3_2, t11, hc]
    rcases hs with ⟨h9, q, hq, s1, s2, s3⟩ | ⟨h10, j, hj, s, s0, s1, s3, s4, s5, s6⟩
    · by_cases h8 : i = 12
      · subst h8
        have c := Tick_c2 l 12 (by omega) (by omega)
        simp -implicitDefEqProofs (maxSteps := 2000000) (disch := omega) only [go_sem, seval, fA, lA, na, dO, dN, dR, bO, lO, nO, vA, eA_snoc, hl'] at c
        rcases hq with rfl | rfl
        · simp -implicitDefEqProofs (maxSteps := 2000000) (disch := omega) only [go_sem, seval, na] at s1
          simp -implicitDefEqProofs (maxSteps := 2000000) (disch := omega) only [go_sem, seval, ] at s2 s3
          generalize (σ 13648321).gen = g1 at s1 s2
          generalize (σ 13648322).gen = g2 at s1 s3
          simp -implicitDefEqProofs (maxSteps := 2000000) (disch := omega) only [go_sem, seval, t3, t11, w1, w2, callr5, s1, s2, s3, c, hn, hn1, r7, r6, r5, q7, q6, q5]
          exact ⟨13, by omega, by omega, by simp -implicitDefEqProofs (maxSteps := 2000000) (disch := omega) only [go_sem, seval, t0], by simp -implicitDefEqProofs (maxSteps := 2000000) (disch := omega) only [go_sem, seval, t3], by simp -implicitDefEqProofs (maxSteps := 2000000) (disch := omega) only [go_sem, seval, t10], by simp -implicitDefEqProofs (maxSteps := 2000000) (disch := omega) only [go_sem, seval, ], ⟨by simp -implicitDefEqProofs (maxSteps := 2000000) (disch := omega) only [go_sem, seval, w1'], by simp -implicitDefEqProofs (maxSteps := 2000000) (disch := omega) only [go_sem, seval, w2], by simp -implicitDefEqProofs (maxSteps := 2000000) (disch := omega) only [go_sem, seval, w3]⟩, .inr ⟨by omega, 0, by omega, by simp -implicitDefEqProofs (maxSteps := 2000000) (disch := omega) only [go_sem, seval, na, hl'], by simp -implicitDefEqProofs (maxSteps := 2000000) (disch := omega) only [go_sem, seval, ], by simp -implicitDefEqProofs (maxSteps := 2000000) (disch := omega) only [go_sem, seval, eA_snoc], by simp -implicitDefEqProofs (maxSteps := 2000000) (disch := omega) only [go_sem, seval, vA], by simp -implicitDefEqProofs (maxSteps := 2000000) (disch := omega) only [go_sem, seval, ], by simp -implicitDefEqProofs (maxSteps := 2000000) (disch := omega) only [go_sem, seval, ], by simp -implicitDefEqProofs (maxSteps := 2000000) (disch := omega) only [go_sem, seval, ]⟩⟩
        · simp -implicitDefEqProofs (maxSteps := 2000000) (disch := omega) only [go_sem, seval, na] at s1
          simp -implicitDefEqProofs (maxSteps := 2000000) (disch := omega) only [go_sem, seval, ] at s2 s3
          generalize (σ 9408).gen = g1 at s1 s2
          generalize (σ 9409).gen = g2 at s1 s3
          simp -implicitDefEqProofs (maxSteps := 2000000) (disch := omega) only [go_sem, seval, t3, t11, w1, w2, callr5, s1, s2, s3, c, hn, hn1, r7, r6, r5, q7, q6, q5]
          exact ⟨13, by omega, by omega, by simp -implicitDefEqProofs (maxSteps := 2000000) (disch := omega) only [go_sem, seval, t0], by simp -implicitDefEqProofs (maxSteps := 2000000) (disch := omega) only [go_sem, seval, t3], by simp -implicitDefEqProofs (maxSteps := 2000000) (disch := omega) only [go_sem, seval, t10], by simp -implicitDefEqProofs (maxSteps := 2000000) (disch := omega) only [go_sem, seval, ], ⟨by simp -implicitDefEqProofs (maxSteps := 2000000) (disch := omega) only [go_sem, seval, w1'], by simp -implicitDefEqProofs (maxSteps := 2000000) (disch := omega) only [go_sem, seval, w2], by simp -implicitDefEqProofs (maxSteps := 2000000) (disch := omega) only [go_sem, seval, w3]⟩, .inr ⟨by omega, 0, by omega, by simp -implicitDefEqProofs (maxSteps := 2000000) (disch := omega) only [go_sem, seval, na, hl'], by simp -implicitDefEqProofs (maxSteps := 2000000) (disch := omega) only [go_sem, seval, ], by simp -implicitDefEqProofs (maxSteps := 2000000) (disch := omega) only [go_sem, seval, eA_snoc], by simp -implicitDefEqProofs (maxSteps := 2000000) (disch := omega) only [go_sem, seval, vA], by simp -implicitDefEqProofs (maxSteps := 2000000) (disch := omega) only [go_sem, seval, ], by simp -implicitDefEqProofs (maxSteps := 2000000) (disch := omega) only [go_sem, seval, ], by simp -implicitDefEqProofs (maxSteps := 2000000) (disch := omega) only [go_sem, seval, ]⟩⟩
      · have c := Tick_f2 l i i (by omega) (by omega)
        simp -implicitDefEqProofs (maxSteps := 2000000) (disch := omega) only [go_sem, seval, fA, na, dO, dN, dR, bO, lO, nO] at c
        rcases hq with rfl | rfl
        · simp -implicitDefEqProofs (maxSteps := 2000000) (disch := omega) only [go_sem, seval, na] at s1
          simp -implicitDefEqProofs (maxSteps := 2000000) (disch := omega) only [go_sem, seval, ] at s2 s3
          generalize (σ 13648321).gen = g1 at s1 s2
          generalize (σ 13648322).gen = g2 at s1 s3
          simp -implicitDefEqProofs (maxSteps := 2000000) (disch := omega) only [go_sem, seval, t3, t11, w1, w2, callr5, s1, s2, s3, c, hn, r7, r6, r5]
          exact ⟨i + 1, by omega, by omega, by simp -implicitDefEqProofs (maxSteps := 2000000) (disch := omega) only [go_sem, seval, t0], by simp -implicitDefEqProofs (maxSteps := 2000000) (disch := omega) only [go_sem, seval, t3], by simp -implicitDefEqProofs (maxSteps := 2000000) (disch := omega) only [go_sem, seval, t10], by simp -implicitDefEqProofs (maxSteps := 2000000) (disch := omega) only [go_sem, seval, ], ⟨by simp -implicitDefEqProofs (maxSteps := 2000000) (disch := omega) only [go_sem, seval, w1'], by simp -implicitDefEqProofs (maxSteps := 2000000) (disch := omega) only [go_sem, seval, w2], by simp -implicitDefEqProofs (maxSteps := 2000000) (disch := omega) only [go_sem, seval, w3]⟩, .inl ⟨by omega, 9408, .inr rfl, by simp -implicitDefEqProofs (maxSteps := 2000000) (disch := omega) only [go_sem, seval, na], by simp -implicitDefEqProofs (maxSteps := 2000000) (disch := omega) only [go_sem, seval, ], by simp -implicitDefEqProofs (maxSteps := 2000000) (disch := omega) only [go_sem, seval, ]⟩⟩
        · simp -implicitDefEqProofs (maxSteps := 2000000) (disch := omega) only [go_sem, seval, na] at s1
          simp -implicitDefEqProofs (maxSteps := 2000000) (disch := omega) only [go_sem, seval, ] at s2 s3
          generalize (σ 9408).gen = g1 at s1 s2
          generalize (σ 9409).gen = g2 at s1 s3
          simp -implicitDefEqProofs (maxSteps := 2000000) (disch := omega) only [go_sem, seval, t3, t11, w1, w2, callr5, s1, s2, s3, c, hn, r7, r6, r5]
          exact ⟨i + 1, by omega, by omega, by simp -implicitDefEqProofs (maxSteps := 2000000) (disch := omega) only [go_sem, seval, t0], by simp -implicitDefEqProofs (maxSteps := 2000000) (disch := omega) only [go_sem, seval, t3], by simp -implicitDefEqProofs (maxSteps := 2000000) (disch := omega) only [go_sem, seval, t10], by simp -implicitDefEqProofs (maxSteps := 2000000) (disch := omega) only [go_sem, seval, ], ⟨by simp -implicitDefEqProofs (maxSteps := 2000000) (disch := omega) only [go_sem, seval, w1'], by simp -implicitDefEqProofs (maxSteps := 2000000) (disch := omega) only [go_sem, seval, w2], by simp -implicitDefEqProofs (maxSteps := 2000000) (disch := omega) only [go_sem, seval, w3]⟩, .inl ⟨by omega, 9408, .inr rfl, by simp -implicitDefEqProofs (maxSteps := 2000000) (disch := omega) only [go_sem, seval, na], by simp -implicitDefEqProofs (maxSteps := 2000000) (disch := omega) only [go_sem, seval, ], by simp -implicitDefEqProofs (maxSteps := 2000000) (disch := omega) only [go_sem, seval, ]⟩⟩
    · simp -implicitDefEqProofs (maxSteps := 2000000) (disch := omega) only [go_sem, seval, na, hl'] at s
      simp -implicitDefEqProofs (maxSteps := 2000000) (disch := omega) only [go_sem, seval, eA_snoc] at s1
      simp -implicitDefEqProofs (maxSteps := 2000000) (disch := omega) only [go_sem, seval, vA] at s3
      generalize (σ 9408).gen = g0 at s s0
      generalize (σ 9409).gen = g1 at s s1
      generalize (σ 9410).gen = g2 at s s3
      generalize (σ 9411).gen = g3 at s s4
      generalize (σ 9412).gen = g4 at s s5
      generalize (σ 9413).gen = g5 at s s6
      by_cases h8 : j = 2
      · subst h8
        have c := Tick_ta (l ++ [(2, [])]) dN (.inl rfl) 2 (l.length + 1) 16 i (by omega) (by simp; omega)
        simp -implicitDefEqProofs (maxSteps := 2000000) (disch := omega) only [go_sem, seval, lA, na, dO, dN, dR, bO, lO, nO, vA, eA_snoc, hl'] at c
        simp -implicitDefEqProofs (maxSteps := 2000000) (disch := omega) only [go_sem, seval, t3, t11, w1, w2, callr5, s, s0, s1, s3, s4, s5, s6, c, hn1, q7, q6, q5]
        exact ⟨i + 1, by omega, by omega, by simp -implicitDefEqProofs (maxSteps := 2000000) (disch := omega) only [go_sem, seval, t0], by simp -implicitDefEqProofs (maxSteps := 2000000) (disch := omega) only [go_sem, seval, t3], by simp -implicitDefEqProofs (maxSteps := 2000000) (disch := omega) only [go_sem, seval, t10], by simp -implicitDefEqProofs (maxSteps := 2000000) (disch := omega) only [go_sem, seval, ], ⟨by simp -implicitDefEqProofs (maxSteps := 2000000) (disch := omega) only [go_sem, seval, w1'], by simp -implicitDefEqProofs (maxSteps := 2000000) (disch := omega) only [go_sem, seval, w2], by simp -implicitDefEqProofs (maxSteps := 2000000) (disch := omega) only [go_sem, seval, w3]⟩, .inr ⟨by omega, 0, by omega, by simp -implicitDefEqProofs (maxSteps := 2000000) (disch := omega) only [go_sem, seval, na, hl'], by simp -implicitDefEqProofs (maxSteps := 2000000) (disch := omega) only [go_sem, seval, ], by simp -implicitDefEqProofs (maxSteps := 2000000) (disch := omega) only [go_sem, seval, eA_snoc], by simp -implicitDefEqProofs (maxSteps := 2000000) (disch := omega) only [go_sem, seval, vA], by simp -implicitDefEqProofs (maxSteps := 2000000) (disch := omega) only [go_sem, seval, ], by simp -implicitDefEqProofs (maxSteps := 2000000) (disch := omega) only [go_sem, seval, ], by simp -implicitDefEqProofs (maxSteps := 2000000) (disch := omega) only [go_sem, seval, ]⟩⟩
      · have c := Tick_la (l ++ [(2, [])]) dN (.inl rfl) 2 (l.length + 1) 16 j i (by omega) (by omega) (by simp; omega)
        simp -implicitDefEqProofs (maxSteps := 2000000) (disch := omega) only [go_sem, seval, lA, na, dO, dN, dR, bO, lO, nO, vA, eA_snoc, hl'] at c
        simp -implicitDefEqProofs (maxSteps := 2000000) (disch := omega) only [go_sem, seval, t3, t11, w1, w2, callr5, s, s0, s1, s3, s4, s5, s6, c, hn1, q7, q6, q5]
        exact ⟨i + 1, by omega, by omega, by simp -implicitDefEqProofs (maxSteps := 2000000) (disch := omega) only [go_sem, seval, t0], by simp -implicitDefEqProofs (maxSteps := 2000000) (disch := omega) only [go_sem, seval, t3], by simp -implicitDefEqProofs (maxSteps := 2000000) (disch := omega) only [go_sem, seval, t10], by simp -implicitDefEqProofs (maxSteps := 2000000) (disch := omega) only [go_sem, seval, ], ⟨by simp -implicitDefEqProofs (maxSteps := 2000000) (disch := omega) only [go_sem, seval, w1'], by simp -implicitDefEqProofs (maxSteps := 2000000) (disch := omega) only [go_sem, seval, w2], by simp -implicitDefEqProofs (maxSteps := 2000000) (disch := omega) only [go_sem, seval, w3]⟩, .inr ⟨by omega, j + 1, by omega, by simp -implicitDefEqProofs (maxSteps := 2000000) (disch := omega) only [go_sem, seval, na, hl'], by simp -implicitDefEqProofs (maxSteps := 2000000) (disch := omega) only [go_sem, seval, ], by simp -implicitDefEqProofs (maxSteps := 2000000) (disch := omega) only [go_sem, seval, eA_snoc], by simp -implicitDefEqProofs (maxSteps := 2000000) (disch := omega) only [go_sem, seval, vA], by simp -implicitDefEqProofs (maxSteps := 2000000) (disch := omega) only [go_sem, seval, ], by simp -implicitDefEqProofs (maxSteps := 2000000) (disch := omega) only [go_sem, seval, ], by simp -implicitDefEqProofs (maxSteps := 2000000) (disch := omega) only [go_sem, seval, ]⟩⟩
  · simp -implicitDefEqProofs (maxSteps := 2000000) (disch := omega) only [go_sem, seval, lp3_2, t11, hc]
    rcases hs with ⟨h9, _⟩ | ⟨h10, j, hj, hs⟩
    · omega
    · refine hQ _ ⟨by simp -implicitDefEqProofs (maxSteps := 2000000) (disch := omega) only [go_sem, seval, t0], by simp -implicitDefEqProofs (maxSteps := 2000000) (disch := omega) only [go_sem, seval, t3], by simp -implicitDefEqProofs (maxSteps := 2000000) (disch := omega) only [go_sem, seval, t10], ⟨by simp -implicitDefEqProofs (maxSteps := 2000000) (disch := omega) only [go_sem, seval, w1'], by simp -implicitDefEqProofs (maxSteps := 2000000) (disch := omega) only [go_sem, seval, w2], by simp -implicitDefEqProofs (maxSteps := 2000000) (disch := omega) only [go_sem, seval, w3]⟩, _, _, hs⟩
def enS (P : Pm) (l : List EA) (i : Nat) (s : St) : Prop := i ≤ min P.L.length 40 ∧ s.t 0 = P.a ∧ s.t 3 = .ptr 5244160 P.g 0 ∧ s.t 10 = .int .i64 (min P.L.length 40 : Nat) ∧ s.t 12 = .int .i64 (i : Int) ∧ WorldAt P.g P.ga P.gm P.gl P.gh 13648320 P.p s.σ ∧ ∃ j h : Int, LeadH P.p l j h s.σ
theorem entA_gt (L : List (List UInt8)) (n i : Nat) (h : i < n) (hn : n ≤ L.length) : gt (entA L n ++ [(2, [])]) (i + 1) = (1, gt L i) := by
  have h1 : i < ((L.take n).map fun s => ((1 : Int), s)).length := by simp; omega
  unfold entA gt
  rw [List.cons_append, List.getD_eq_getElem?_getD, List.getElem?_cons_succ, List.getElem?_append_left h1, List.getD_eq_getElem?_getD]
  simp [List.getElem?_take, h, show i < L.length by omega]
theorem loop3_ok (P : Pm) (hL : P.L.length ≤ 100000000000000) (l : List EA) (hl : l.length = min P.L.length 40 + 2) (hg : ∀ i, i < min P.L.length 40 → gt l (i + 1) = (1, gt P.L i)) (Q : Ex → St → Prop) (hQ : ∀ s, (∃ i, enS P l i s) → Q (.exit 6) s) (s0 : St) (h : enS P l 0 s0) : wpA (tabW fns) (.loop lp3_3) Q s0 := by
  have hn := eAn l
  have r7 := eA_ro 6 l
  have r6 := eA_ro 5 l
  have r5 := eA_ro 4 l
  refine wp_loopS (enS P l) (fun i => 40 - i) 0 h ?_
  rintro i ⟨t, σ⟩ ⟨hi, t0, t3, t10, t12, ⟨w1, w2, w3⟩, j, hh, hs⟩
  simp only at t0 t3 t10 t12 w1 w2 w3 hs
  have hs0 := hs
  obtain ⟨s, s0, s1, s3, s4, s5, s6⟩ := hs
  have w1' := w1
  have t0' := t0
  simp -implicitDefEqProofs (maxSteps := 2000000) (disch := omega) only [go_sem, seval, Pm.a] at t0
  simp -implicitDefEqProofs (maxSteps := 2000000) (disch := omega) only [go_sem, seval, wB] at w1
  rw [hl] at hn
  generalize hm : min P.L.length 40 = m at *
  by_cases hc : i < m
  · have hc2 : i < P.L.length := by omega
    have e := Entry_a l 2 0 3 0 j hh 16 (.sl .nil 0 []) (.rmp vA) (.rmp []) (.rmp []) (.rmp []) (m + 2) (i + 1) (by omega) (by omega) (by omega) (by omega)
    rw [hg i hc] at e
    simp -implicitDefEqProofs (maxSteps := 2000000) (disch := omega) only [go_sem, seval, na, vA, hl, eA] at e
    simp -implicitDefEqProofs (maxSteps := 2000000) (disch := omega) only [go_sem, seval, na, hl] at s
    simp -implicitDefEqProofs (maxSteps := 2000000) (disch := omega) only [go_sem, seval, vA] at s3
    generalize (σ 9408).gen = g0 at s s0
    generalize (σ 9409).gen = g1 at s s1
    generalize (σ 9410).gen = g2 at s s3
    generalize (σ 9411).gen = g3 at s s4
    generalize (σ 9412).gen = g4 at s s5
    generalize (σ 9413).gen = g5 at s s6
    simp -implicitDefEqProofs (maxSteps := 2000000) (disch := omega) only [go_sem, seval, lp3_3, t10, t12, hc]
    simp -implicitDefEqProofs (maxSteps := 2000000) (disch := omega) only [go_sem, seval, t3, t12, w1, w2, s, s0, s1, s3, s4, s5, s6, hn, e, r7, r6, r5]
    refine wp_draw_E ?_
    simp -implicitDefEqProofs (maxSteps := 2000000) (disch := omega) only [go_sem, seval, t0, t12, hc2]
    exact ⟨i + 1, by omega, by omega, by simp -implicitDefEqProofs (maxSteps := 2000000) (disch := omega) only [go_sem, seval, t0'], by simp -implicitDefEqProofs (maxSteps := 2000000) (disch := omega) only [go_sem, seval, t3], by simp -implicitDefEqProofs (maxSteps := 2000000) (disch := omega) only [go_sem, seval, t10, hm], by simp -implicitDefEqProofs (maxSteps := 2000000) (disch := omega) only [go_sem, seval, ], ⟨by simp -implicitDefEqProofs (maxSteps := 2000000) (disch := omega) only [go_sem, seval, w1'], by simp -implicitDefEqProofs (maxSteps := 2000000) (disch := omega) only [go_sem, seval, w2], by simp -implicitDefEqProofs (maxSteps := 2000000) (disch := omega) only [go_sem, seval, w3]⟩, j, hh, hs0.frame (by simp -implicitDefEqProofs (maxSteps := 2000000) (disch := omega) only [go_sem, seval, ]) (by simp -implicitDefEqProofs (maxSteps := 2000000) (disch := omega) only [go_sem, seval, ]) (by simp -implicitDefEqProofs (maxSteps := 2000000) (disch := omega) only [go_sem, seval, ]) (by simp -implicitDefEqProofs (maxSteps := 2000000) (disch := omega) only [go_sem, seval, ]) (by simp -implicitDefEqProofs (maxSteps := 2000000) (disch := omega) only [go_sem, seval, ]) (by simp -implicitDefEqProofs (maxSteps := 2000000) (disch := omega) only [go_sem, seval, ]) (by simp -implicitDefEqProofs (maxSteps := 2000000) (disch := omega) only [go_sem, seval, ])⟩
  · simp -implicitDefEqProofs (maxSteps := 2000000) (disch := omega) only [go_sem, seval, lp3_3, t10, t12, hc]
    exact hQ _ ⟨i, by omega, by simp -implicitDefEqProofs (maxSteps := 2000000) (disch := omega) only [go_sem, seval, t0'], by simp -implicitDefEqProofs (maxSteps := 2000000) (disch := omega) only [go_sem, seval, t3], by simp -implicitDefEqProofs (maxSteps := 2000000) (disch := omega) only [go_sem, seval, t10, hm], by simp -implicitDefEqProofs (maxSteps := 2000000) (disch := omega) only [go_sem, seval, t12], ⟨by simp -implicitDefEqProofs (maxSteps := 2000000) (disch := omega) only [go_sem, seval, w1'], by simp -implicitDefEqProofs (maxSteps := 2000000) (disch := omega) only [go_sem, seval, w2], by simp -implicitDefEqProofs (maxSteps := 2000000) (disch := omega) only [go_sem, seval, w3]⟩, j, hh, hs0⟩
end Go.Vm.Ytmcbceppgaljnaa
