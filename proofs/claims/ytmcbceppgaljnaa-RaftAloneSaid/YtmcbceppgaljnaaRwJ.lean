/- (seval) Raft: a replica alone: the law's first ticks. -/
import Derived.Test.YtmcbceppgaljnaaRwG
import Derived.Test.YtmcbceppgaljnaaRwI
set_option linter.unusedSectionVars false
set_option linter.unusedSimpArgs false
set_option linter.unusedVariables false
set_option maxHeartbeats 8000000
set_option maxRecDepth 10000
namespace Go.Vm.Ytmcbceppgaljnaa
open Go.Proofs
/-- One that leads, in its first term. -/
def LeadG (p b : Nat) (l : List EA) (since heard : Int) (σ : Store) : Prop := σ 5247424 = ⟨p, .rw, false, na (.sli b (σ b).gen 0 1 1) 1 0 (.sli (b + 1) (σ (b + 1)).gen 0 l.length 4) 3 0 l.length since heard 13 (.sli (b + 2) (σ (b + 2)).gen 0 0 1) (.mp (b + 3) (σ (b + 3)).gen) (.mp (b + 4) (σ (b + 4)).gen) (.mp (b + 5) (σ (b + 5)).gen) (.mp (b + 6) (σ (b + 6)).gen)⟩ ∧
  σ b = ⟨(σ b).gen, .rw, true, [.int .i64 0]⟩ ∧ σ (b + 1) = ⟨(σ (b + 1)).gen, .rw, true, rows eA l⟩ ∧ σ (b + 2) = ⟨(σ (b + 2)).gen, .rw, true, []⟩ ∧ σ (b + 3) = ⟨(σ (b + 3)).gen, .rw, false, [.mcell vA]⟩ ∧ σ (b + 4) = ⟨(σ (b + 4)).gen, .rw, false, [.mcell []]⟩ ∧ σ (b + 5) = ⟨(σ (b + 5)).gen, .rw, false, [.mcell []]⟩ ∧ σ (b + 6) = ⟨(σ (b + 6)).gen, .rw, false, [.mcell []]⟩
theorem LeadG.at_ {p b : Nat} {l : List EA} {since heard : Int} {σ : Store} (h : LeadG p b l since heard σ) : LeadAt p b l since heard σ := ⟨_, _, _, _, _, _, _, h⟩
/-- One that follows, at first. -/
def FolG (p q : Nat) (i : Nat) (σ : Store) : Prop := σ 5247424 = ⟨p, .rw, false, na (.sli q (σ q).gen 0 1 1) 0 (-1) nO 1 (-1) 0 i i 10 (.sli (q + 1) (σ (q + 1)).gen 0 0 1) .nilm .nilm .nilm .nilm⟩ ∧ σ q = ⟨(σ q).gen, .rw, true, [.int .i64 0]⟩ ∧ σ (q + 1) = ⟨(σ (q + 1)).gen, .rw, true, []⟩
structure Pm where
  k : SK
  L : List (List UInt8)
  g : Nat
  ga : Nat
  gm : Nat
  gl : Nat
  gh : Nat
  p : Nat
def Pm.a (P : Pm) : V := .sl P.k P.L.length (P.L.map V.str)
def tkS (P : Pm) (i : Nat) (s : St) : Prop := i ≤ 40 ∧ s.t 0 = P.a ∧ s.t 3 = .ptr 5244160 P.g 0 ∧ s.t 4 = .bool true ∧ s.t 5 = .int .i64 (i : Int) ∧ WorldAt P.g P.ga P.gm P.gl P.gh 5247424 P.p s.σ ∧
  ((i ≤ 9 ∧ ∃ q, (q = 5247425 ∨ q = 2176) ∧ FolG P.p q i s.σ) ∨ (10 ≤ i ∧ ∃ j : Nat, j ≤ 2 ∧ LeadG P.p 2176 [(1, [])] j i s.σ))
def m2S (P : Pm) (s : St) : Prop := s.t 0 = P.a ∧ s.t 3 = .ptr 5244160 P.g 0 ∧ s.t 4 = .bool true ∧ WorldAt P.g P.ga P.gm P.gl P.gh 5247424 P.p s.σ ∧ ∃ j h : Int, LeadG P.p 2176 [(1, [])] j h s.σ
theorem loop0_ok (P : Pm) (Q : Ex → St → Prop) (hQ : ∀ s, m2S P s → Q (.exit 0) s) (s0 : St) (h : tkS P 0 s0) : wpA (tabW fns) (.loop lp3_0) Q s0 := by
  refine wp_loopS (tkS P) (fun i => 40 - i) 0 h ?_
  rintro i ⟨t, σ⟩ ⟨hi, t0, t3, t4, t5, ⟨w1, w2, w3⟩, hs⟩
  simp only at t0 t3 t4 t5 w1 w2 w3 hs
  have w1' := w1
  simp -implicitDefEqProofs (maxSteps := 2000000) (disch := omega) only [go_sem, seval, wB] at w1
  by_cases hc : i < 40
  · simp -implicitDefEqProofs (maxSteps := 2000000) (disch := omega) only [go_sem, seval, lp3_0, t4, t5, hc]
    rcases hs with ⟨h9, q, hq, s1, s2, s3⟩ | ⟨h10, j, hj, s, s0, s1, s2, s3, s4, s5, s6⟩
    · by_cases h8 : i = 9
      · subst h8
        have c := Tick_c1 9 (by omega)
        simp -implicitDefEqProofs (maxSteps := 2000000) (disch := omega) only [go_sem, seval, fA, lA, na, dO, dN, dR, bO, lO, nO, vA, rows_cons, rows_nil, eA, List.length_cons, List.length_nil, Int.natCast_one] at c
        rcases hq with rfl | rfl
        · simp -implicitDefEqProofs (maxSteps := 2000000) (disch := omega) only [go_sem, seval, na, nO] at s1
          simp -implicitDefEqProofs (maxSteps := 2000000) (disch := omega) only [go_sem, seval, ] at s2 s3
          generalize (σ 5247425).gen = g1 at s1 s2
          generalize (σ 5247426).gen = g2 at s1 s3
          simp -implicitDefEqProofs (maxSteps := 2000000) (disch := omega) only [go_sem, seval, t3, t5, w1, w2, callr5, s1, s2, s3, c]
          exact ⟨10, by omega, by omega, by simp -implicitDefEqProofs (maxSteps := 2000000) (disch := omega) only [go_sem, seval, t0], by simp -implicitDefEqProofs (maxSteps := 2000000) (disch := omega) only [go_sem, seval, t3], by simp -implicitDefEqProofs (maxSteps := 2000000) (disch := omega) only [go_sem, seval, t4], by simp -implicitDefEqProofs (maxSteps := 2000000) (disch := omega) only [go_sem, seval, ], ⟨by simp -implicitDefEqProofs (maxSteps := 2000000) (disch := omega) only [go_sem, seval, w1'], by simp -implicitDefEqProofs (maxSteps := 2000000) (disch := omega) only [go_sem, seval, w2], by simp -implicitDefEqProofs (maxSteps := 2000000) (disch := omega) only [go_sem, seval, w3]⟩, .inr ⟨by omega, 0, by omega, by simp -implicitDefEqProofs (maxSteps := 2000000) (disch := omega) only [go_sem, seval, na, List.length_cons, List.length_nil], by simp -implicitDefEqProofs (maxSteps := 2000000) (disch := omega) only [go_sem, seval, ], by simp -implicitDefEqProofs (maxSteps := 2000000) (disch := omega) only [go_sem, seval, rows_cons, rows_nil, eA], by simp -implicitDefEqProofs (maxSteps := 2000000) (disch := omega) only [go_sem, seval, ], by simp -implicitDefEqProofs (maxSteps := 2000000) (disch := omega) only [go_sem, seval, vA], by simp -implicitDefEqProofs (maxSteps := 2000000) (disch := omega) only [go_sem, seval, ], by simp -implicitDefEqProofs (maxSteps := 2000000) (disch := omega) only [go_sem, seval, ], by simp -implicitDefEqProofs (maxSteps := 2000000) (disch := omega) only [go_sem, seval, ]⟩⟩
        · simp -implicitDefEqProofs (maxSteps := 2000000) (disch := omega) only [go_sem, seval, na, nO] at s1
          simp -implicitDefEqProofs (maxSteps := 2000000) (disch := omega) only [go_sem, seval, ] at s2 s3
          generalize (σ 2176).gen = g1 at s1 s2
          generalize (σ 2177).gen = g2 at s1 s3
          simp -implicitDefEqProofs (maxSteps := 2000000) (disch := omega) only [go_sem, seval, t3, t5, w1, w2, callr5, s1, s2, s3, c]
          exact ⟨10, by omega, by omega, by simp -implicitDefEqProofs (maxSteps := 2000000) (disch := omega) only [go_sem, seval, t0], by simp -implicitDefEqProofs (maxSteps := 2000000) (disch := omega) only [go_sem, seval, t3], by simp -implicitDefEqProofs (maxSteps := 2000000) (disch := omega) only [go_sem, seval, t4], by simp -implicitDefEqProofs (maxSteps := 2000000) (disch := omega) only [go_sem, seval, ], ⟨by simp -implicitDefEqProofs (maxSteps := 2000000) (disch := omega) only [go_sem, seval, w1'], by simp -implicitDefEqProofs (maxSteps := 2000000) (disch := omega) only [go_sem, seval, w2], by simp -implicitDefEqProofs (maxSteps := 2000000) (disch := omega) only [go_sem, seval, w3]⟩, .inr ⟨by omega, 0, by omega, by simp -implicitDefEqProofs (maxSteps := 2000000) (disch := omega) only [go_sem, seval, na, List.length_cons, List.length_nil], by simp -implicitDefEqProofs (maxSteps := 2000000) (disch := omega) only [go_sem, seval, ], by simp -implicitDefEqProofs (maxSteps := 2000000) (disch := omega) only [go_sem, seval, rows_cons, rows_nil, eA], by simp -implicitDefEqProofs (maxSteps := 2000000) (disch := omega) only [go_sem, seval, ], by simp -implicitDefEqProofs (maxSteps := 2000000) (disch := omega) only [go_sem, seval, vA], by simp -implicitDefEqProofs (maxSteps := 2000000) (disch := omega) only [go_sem, seval, ], by simp -implicitDefEqProofs (maxSteps := 2000000) (disch := omega) only [go_sem, seval, ], by simp -implicitDefEqProofs (maxSteps := 2000000) (disch := omega) only [go_sem, seval, ]⟩⟩
      · have c := Tick_f1 i i (by omega) (by omega)
        simp -implicitDefEqProofs (maxSteps := 2000000) (disch := omega) only [go_sem, seval, fA, na, dO, dN, dR, bO, nO] at c
        rcases hq with rfl | rfl
        · simp -implicitDefEqProofs (maxSteps := 2000000) (disch := omega) only [go_sem, seval, na, nO] at s1
          simp -implicitDefEqProofs (maxSteps := 2000000) (disch := omega) only [go_sem, seval, ] at s2 s3
          generalize (σ 5247425).gen = g1 at s1 s2
          generalize (σ 5247426).gen = g2 at s1 s3
          simp -implicitDefEqProofs (maxSteps := 2000000) (disch := omega) only [go_sem, seval, t3, t5, w1, w2, callr5, s1, s2, s3, c]
          exact ⟨i + 1, by omega, by omega, by simp -implicitDefEqProofs (maxSteps := 2000000) (disch := omega) only [go_sem, seval, t0], by simp -implicitDefEqProofs (maxSteps := 2000000) (disch := omega) only [go_sem, seval, t3], by simp -implicitDefEqProofs (maxSteps := 2000000) (disch := omega) only [go_sem, seval, t4], by simp -implicitDefEqProofs (maxSteps := 2000000) (disch := omega) only [go_sem, seval, ], ⟨by simp -implicitDefEqProofs (maxSteps := 2000000) (disch := omega) only [go_sem, seval, w1'], by simp -implicitDefEqProofs (maxSteps := 2000000) (disch := omega) only [go_sem, seval, w2], by simp -implicitDefEqProofs (maxSteps := 2000000) (disch := omega) only [go_sem, seval, w3]⟩, .inl ⟨by omega, 2176, .inr rfl, by simp -implicitDefEqProofs (maxSteps := 2000000) (disch := omega) only [go_sem, seval, na, nO], by simp -implicitDefEqProofs (maxSteps := 2000000) (disch := omega) only [go_sem, seval, ], by simp -implicitDefEqProofs (maxSteps := 2000000) (disch := omega) only [go_sem, seval, ]⟩⟩
        · simp -implicitDefEqProofs (maxSteps := 2000000) (disch := omega) only [go_sem, seval, na, nO] at s1
          simp -implicitDefEqProofs (maxSteps := 2000000) (disch := omega) only [go_sem, seval, ] at s2 s3
          generalize (σ 2176).gen = g1 at s1 s2
          generalize (σ 2177).gen = g2 at s1 s3
          simp -implicitDefEqProofs (maxSteps := 2000000) (disch := omega) only [go_sem, seval, t3, t5, w1, w2, callr5, s1, s2, s3, c]
          exact ⟨i + 1, by omega, by omega, by simp -implicitDefEqProofs (maxSteps := 2000000) (disch := omega) only [go_sem, seval, t0], by simp -implicitDefEqProofs (maxSteps := 2000000) (disch := omega) only [go_sem, seval, t3], by simp -implicitDefEqProofs (maxSteps := 2000000) (disch := omega) only [go_sem, seval, t4], by simp -implicitDefEqProofs (maxSteps := 2000000) (disch := omega) only [go_sem, seval, ], ⟨by simp -implicitDefEqProofs (maxSteps := 2000000) (disch := omega) only [go_sem, seval, w1'], by simp -implicitDefEqProofs (maxSteps := 2000000) (disch := omega) only [go_sem, seval, w2], by simp -implicitDefEqProofs (maxSteps := 2000000) (disch := omega) only [go_sem, seval, w3]⟩, .inl ⟨by omega, 2176, .inr rfl, by simp -implicitDefEqProofs (maxSteps := 2000000) (disch := omega) only [go_sem, seval, na, nO], by simp -implicitDefEqProofs (maxSteps := 2000000) (disch := omega) only [go_sem, seval, ], by simp -implicitDefEqProofs (maxSteps := 2000000) (disch := omega) only [go_sem, seval, ]⟩⟩
    · simp -implicitDefEqProofs (maxSteps := 2000000) (disch := omega) only [go_sem, seval, na, List.length_cons, List.length_nil] at s
      simp -implicitDefEqProofs (maxSteps := 2000000) (disch := omega) only [go_sem, seval, rows_cons, rows_nil, eA] at s1
      simp -implicitDefEqProofs (maxSteps := 2000000) (disch := omega) only [go_sem, seval, vA] at s3
      simp -implicitDefEqProofs (maxSteps := 2000000) (disch := omega) only [go_sem, seval, ] at s0 s2 s4 s5 s6
      generalize (σ 2176).gen = g0 at s s0
      generalize (σ 2177).gen = g1 at s s1
      generalize (σ 2178).gen = g2 at s s2
      generalize (σ 2179).gen = g3 at s s3
      generalize (σ 2180).gen = g4 at s s4
      generalize (σ 2181).gen = g5 at s s5
      generalize (σ 2182).gen = g6 at s s6
      by_cases h8 : j = 2
      · subst h8
        have c := Tick_ta [(1, [])] dO (.inr rfl) 1 1 13 i (by omega) (by simp)
        simp -implicitDefEqProofs (maxSteps := 2000000) (disch := omega) only [go_sem, seval, lA, na, dO, dN, dR, bO, lO, nO, vA, rows_cons, rows_nil, eA, List.length_cons, List.length_nil, Int.natCast_one] at c
        simp -implicitDefEqProofs (maxSteps := 2000000) (disch := omega) only [go_sem, seval, t3, t5, w1, w2, callr5, s, s0, s1, s2, s3, s4, s5, s6, c]
        exact ⟨i + 1, by omega, by omega, by simp -implicitDefEqProofs (maxSteps := 2000000) (disch := omega) only [go_sem, seval, t0], by simp -implicitDefEqProofs (maxSteps := 2000000) (disch := omega) only [go_sem, seval, t3], by simp -implicitDefEqProofs (maxSteps := 2000000) (disch := omega) only [go_sem, seval, t4], by simp -implicitDefEqProofs (maxSteps := 2000000) (disch := omega) only [go_sem, seval, ], ⟨by simp -implicitDefEqProofs (maxSteps := 2000000) (disch := omega) only [go_sem, seval, w1'], by simp -implicitDefEqProofs (maxSteps := 2000000) (disch := omega) only [go_sem, seval, w2], by simp -implicitDefEqProofs (maxSteps := 2000000) (disch := omega) only [go_sem, seval, w3]⟩, .inr ⟨by omega, 0, by omega, by simp -implicitDefEqProofs (maxSteps := 2000000) (disch := omega) only [go_sem, seval, na, List.length_cons, List.length_nil], by simp -implicitDefEqProofs (maxSteps := 2000000) (disch := omega) only [go_sem, seval, ], by simp -implicitDefEqProofs (maxSteps := 2000000) (disch := omega) only [go_sem, seval, rows_cons, rows_nil, eA], by simp -implicitDefEqProofs (maxSteps := 2000000) (disch := omega) only [go_sem, seval, ], by simp -implicitDefEqProofs (maxSteps := 2000000) (disch := omega) only [go_sem, seval, vA], by simp -implicitDefEqProofs (maxSteps := 2000000) (disch := omega) only [go_sem, seval, ], by simp -implicitDefEqProofs (maxSteps := 2000000) (disch := omega) only [go_sem, seval, ], by simp -implicitDefEqProofs (maxSteps := 2000000) (disch := omega) only [go_sem, seval, ]⟩⟩
      · have c := Tick_la [(1, [])] dO (.inr rfl) 1 1 13 j i (by omega) (by omega) (by simp)
        simp -implicitDefEqProofs (maxSteps := 2000000) (disch := omega) only [go_sem, seval, lA, na, dO, dN, dR, bO, lO, nO, vA, rows_cons, rows_nil, eA, List.length_cons, List.length_nil, Int.natCast_one] at c
        simp -implicitDefEqProofs (maxSteps := 2000000) (disch := omega) only [go_sem, seval, t3, t5, w1, w2, callr5, s, s0, s1, s2, s3, s4, s5, s6, c]
        exact ⟨i + 1, by omega, by omega, by simp -implicitDefEqProofs (maxSteps := 2000000) (disch := omega) only [go_sem, seval, t0], by simp -implicitDefEqProofs (maxSteps := 2000000) (disch := omega) only [go_sem, seval, t3], by simp -implicitDefEqProofs (maxSteps := 2000000) (disch := omega) only [go_sem, seval, t4], by simp -implicitDefEqProofs (maxSteps := 2000000) (disch := omega) only [go_sem, seval, ], ⟨by simp -implicitDefEqProofs (maxSteps := 2000000) (disch := omega) only [go_sem, seval, w1'], by simp -implicitDefEqProofs (maxSteps := 2000000) (disch := omega) only [go_sem, seval, w2], by simp -implicitDefEqProofs (maxSteps := 2000000) (disch := omega) only [go_sem, seval, w3]⟩, .inr ⟨by omega, j + 1, by omega, by simp -implicitDefEqProofs (maxSteps := 2000000) (disch := omega) only [go_sem, seval, na, List.length_cons, List.length_nil], by simp -implicitDefEqProofs (maxSteps := 2000000) (disch := omega) only [go_sem, seval, ], by simp -implicitDefEqProofs (maxSteps := 2000000) (disch := omega) only [go_sem, seval, rows_cons, rows_nil, eA], by simp -implicitDefEqProofs (maxSteps := 2000000) (disch := omega) only [go_sem, seval, ], by simp -implicitDefEqProofs (maxSteps := 2000000) (disch := omega) only [go_sem, seval, vA], by simp -implicitDefEqProofs (maxSteps := 2000000) (disch := omega) only [go_sem, seval, ], by simp -implicitDefEqProofs (maxSteps := 2000000) (disch := omega) only [go_sem, seval, ], by simp -implicitDefEqProofs (maxSteps := 2000000) (disch := omega) only [go_sem, seval, ]⟩⟩
  · simp -implicitDefEqProofs (maxSteps := 2000000) (disch := omega) only [go_sem, seval, lp3_0, t4, t5, hc]
    rcases hs with ⟨h9, _⟩ | ⟨h10, j, hj, hs⟩
    · omega
    · refine hQ _ ⟨by simp -implicitDefEqProofs (maxSteps := 2000000) (disch := omega) only [go_sem, seval, t0], by simp -implicitDefEqProofs (maxSteps := 2000000) (disch := omega) only [go_sem, seval, t3], by simp -implicitDefEqProofs (maxSteps := 2000000) (disch := omega) only [go_sem, seval, t4], ⟨by simp -implicitDefEqProofs (maxSteps := 2000000) (disch := omega) only [go_sem, seval, w1'], by simp -implicitDefEqProofs (maxSteps := 2000000) (disch := omega) only [go_sem, seval, w2], by simp -implicitDefEqProofs (maxSteps := 2000000) (disch := omega) only [go_sem, seval, w3]⟩, _, _, hs⟩
end Go.Vm.Ytmcbceppgaljnaa
