/- SHA-256: a block. -/
import Derived.Test.YthfcgllahllkkaaShaA
set_option linter.unusedSectionVars false
set_option linter.unusedSimpArgs false
set_option linter.unusedVariables false
set_option maxHeartbeats 4000000
set_option maxRecDepth 10000
namespace Go.Vm.Ythfcgllahllkkaa
open Go.Proofs

theorem constants_ok : Gf fns 44 [] = some (.agg (kT.map w32), []) :=
  Gf_start rfl rfl (of_closed (V.agg (kT.map w32), ([] : List V)) (by kernel_rfl))
theorem kT_len : kT.length = 64 := rfl
theorem begin_ok : Gf fns 42 [] = some (.agg h0.v, []) :=
  Gf_start rfl rfl (of_closed (V.agg h0.v, ([] : List V)) (by kernel_rfl))

def blockI (p g : Nat) (h : H8) (r1 r2 : V) (b : List UInt8) (σ0 : Store) (g4 g5 g6 : Nat) (i : Nat) (s : St) : Prop :=
  i ≤ 64 ∧ s.t 0 = .ptr p g 0 ∧ s.t 4 = .ptr 46137664 g4 0 ∧ s.t 5 = .ptr 46137728 g5 0 ∧ s.t 6 = .ptr 46137792 g6 0 ∧ s.t 21 = .int .i64 (i : Int) ∧
  s.σ 46137664 = ⟨g4, .rw, false, kT.map w32⟩ ∧ s.σ 46137728 = ⟨g5, .rw, false, (sched b 64).map w32⟩ ∧ s.σ 46137792 = ⟨g6, .rw, false, (rounds kT (sched b 64) h i).v⟩ ∧ Same σ0 s.σ
def blockE (p g : Nat) (h : H8) (r1 r2 : V) (b : List UInt8) (σ : Store) (q : V × Store) : Prop :=
  q.1 = .tup [] ∧ q.2 p = ⟨g, .rw, false, (compress b h).v ++ [r1, r2]⟩ ∧ SameBut p σ q.2
theorem block_run (σ : Store) (p g : Nat) (h : H8) (r1 r2 : V) (v : V) (b : List UInt8) (bo : List Nat) (hp : σ p = ⟨g, .rw, false, h.v ++ [r1, r2]⟩) (hp2 : p < 1048576) (hb : b.length = 64) (hv : roV σ 8 v = some (.sl .ro 64 (b.map u8), bo)) :
    ∃ v' σ', Hf fns 43 [.ptr p g 0, v] σ = some (v', σ') ∧ blockE p g h r1 r2 b σ (v', σ') := by
  refine Hf_start (f := 43) rfl rfl ?_
  have hw := words_ok b .ro hb
  rw [hb] at hw
  have hl : (sched b 64).length = 64 := sched_len b 64
  simp -implicitDefEqProofs (disch := omega) only [go_sem, Nat.reduceAdd, Nat.reduceMul, Nat.reduceSub, Nat.reduceEqDiff, Nat.reduceLT, Nat.reduceLeDiff, reduceIte, reduceCtorEq, Int.reduceLE, Int.reduceLT, Int.reduceGE, Int.reduceGT, Int.reduceAdd, Int.reduceSub, Int.reduceMul, Int.reduceToNat, Int.reduceBEq, Int.reduceBNe, Nat.reduceBEq, Nat.reduceDiv, Nat.reduceMod, Int.reduceNeg, Int.reduceEq, constants_ok, hv, hw, hp, kT_len, hl, H8.v]
  refine wp_loopS (blockI p g h r1 r2 b σ ((σ 46137664).gen + 1) ((σ 46137728).gen + 1) ((σ 46137792).gen + 1)) (fun i => 64 - i) 0 (by simp -implicitDefEqProofs (disch := omega) only [go_sem, Nat.reduceAdd, Nat.reduceMul, Nat.reduceSub, Nat.reduceEqDiff, Nat.reduceLT, Nat.reduceLeDiff, reduceIte, reduceCtorEq, Int.reduceLE, Int.reduceLT, Int.reduceGE, Int.reduceGT, Int.reduceAdd, Int.reduceSub, Int.reduceMul, Int.reduceToNat, Int.reduceBEq, Int.reduceBNe, Nat.reduceBEq, Nat.reduceDiv, Nat.reduceMod, Int.reduceNeg, Int.reduceEq, blockI, rounds, H8.v]) ?_
  generalize (σ 46137664).gen + 1 = g4
  generalize (σ 46137728).gen + 1 = g5
  generalize (σ 46137792).gen + 1 = g6
  rintro i ⟨t, σ1⟩ ⟨hi, h0, h4, h5, h6, h21, s4, s5, s6, hs⟩
  simp only at h0 h4 h5 h6 h21 s4 s5 s6 hs
  have hsp : σ1 p = ⟨g, .rw, false, h.v ++ [r1, r2]⟩ := by rw [hs p hp2, hp]
  simp -implicitDefEqProofs (disch := omega) only [go_sem, Nat.reduceAdd, Nat.reduceMul, Nat.reduceSub, Nat.reduceEqDiff, Nat.reduceLT, Nat.reduceLeDiff, reduceIte, reduceCtorEq, Int.reduceLE, Int.reduceLT, Int.reduceGE, Int.reduceGT, Int.reduceAdd, Int.reduceSub, Int.reduceMul, Int.reduceToNat, Int.reduceBEq, Int.reduceBNe, Nat.reduceBEq, Nat.reduceDiv, Nat.reduceMod, Int.reduceNeg, Int.reduceEq, lp43_0, h21]
  refine condC_dec (fun hlt => ?_) (fun hge => ?_)
  · simp -implicitDefEqProofs (disch := omega) only [go_sem, Nat.reduceAdd, Nat.reduceMul, Nat.reduceSub, Nat.reduceEqDiff, Nat.reduceLT, Nat.reduceLeDiff, reduceIte, reduceCtorEq, Int.reduceLE, Int.reduceLT, Int.reduceGE, Int.reduceGT, Int.reduceAdd, Int.reduceSub, Int.reduceMul, Int.reduceToNat, Int.reduceBEq, Int.reduceBNe, Nat.reduceBEq, Nat.reduceDiv, Nat.reduceMod, Int.reduceNeg, Int.reduceEq, h21]
    refine wp_draw_E ?_
    have hk : kT.length = 64 := rfl
    have hR : rounds kT (sched b 64) h (i + 1) = rnd (gt kT i) (gt (sched b 64) i) (rounds kT (sched b 64) h i) := rfl
    generalize hX : rounds kT (sched b 64) h i = X at s6 hR
    simp -implicitDefEqProofs (disch := omega) only [go_sem, Nat.reduceAdd, Nat.reduceMul, Nat.reduceSub, Nat.reduceEqDiff, Nat.reduceLT, Nat.reduceLeDiff, reduceIte, reduceCtorEq, Int.reduceLE, Int.reduceLT, Int.reduceGE, Int.reduceGT, Int.reduceAdd, Int.reduceSub, Int.reduceMul, Int.reduceToNat, Int.reduceBEq, Int.reduceBNe, Nat.reduceBEq, Nat.reduceDiv, Nat.reduceMod, Int.reduceNeg, Int.reduceEq, h0, h4, h5, h6, h21, s4, s5, s6, H8.v, right_lit]
    refine wp_draw_E ?_
    simp -implicitDefEqProofs (disch := omega) only [go_sem, Nat.reduceAdd, Nat.reduceMul, Nat.reduceSub, Nat.reduceEqDiff, Nat.reduceLT, Nat.reduceLeDiff, reduceIte, reduceCtorEq, Int.reduceLE, Int.reduceLT, Int.reduceGE, Int.reduceGT, Int.reduceAdd, Int.reduceSub, Int.reduceMul, Int.reduceToNat, Int.reduceBEq, Int.reduceBNe, Nat.reduceBEq, Nat.reduceDiv, Nat.reduceMod, Int.reduceNeg, Int.reduceEq, h0, h4, h5, h6, h21, s4, s5, s6, H8.v, right_lit]
    refine wp_draw_E ?_
    simp -implicitDefEqProofs (disch := omega) only [go_sem, Nat.reduceAdd, Nat.reduceMul, Nat.reduceSub, Nat.reduceEqDiff, Nat.reduceLT, Nat.reduceLeDiff, reduceIte, reduceCtorEq, Int.reduceLE, Int.reduceLT, Int.reduceGE, Int.reduceGT, Int.reduceAdd, Int.reduceSub, Int.reduceMul, Int.reduceToNat, Int.reduceBEq, Int.reduceBNe, Nat.reduceBEq, Nat.reduceDiv, Nat.reduceMod, Int.reduceNeg, Int.reduceEq, h0, h4, h5, h6, h21, s4, s5, s6, H8.v, right_lit]
    refine ⟨i + 1, by omega, ?_⟩
    simp -implicitDefEqProofs (disch := omega) only [go_sem, Nat.reduceAdd, Nat.reduceMul, Nat.reduceSub, Nat.reduceEqDiff, Nat.reduceLT, Nat.reduceLeDiff, reduceIte, reduceCtorEq, Int.reduceLE, Int.reduceLT, Int.reduceGE, Int.reduceGT, Int.reduceAdd, Int.reduceSub, Int.reduceMul, Int.reduceToNat, Int.reduceBEq, Int.reduceBNe, Nat.reduceBEq, Nat.reduceDiv, Nat.reduceMod, Int.reduceNeg, Int.reduceEq, blockI, h0, h4, h5, h6, h21, s4, s5, s6, hs, hR, H8.v, rnd, tval, uval, mval]
    omega
  · obtain rfl : i = 64 := by omega
    have hR : compress b h = h.add (rounds kT (sched b 64) h 64) := rfl
    generalize hX : rounds kT (sched b 64) h 64 = X at s6 hR
    simp -implicitDefEqProofs (disch := omega) only [go_sem, Nat.reduceAdd, Nat.reduceMul, Nat.reduceSub, Nat.reduceEqDiff, Nat.reduceLT, Nat.reduceLeDiff, reduceIte, reduceCtorEq, Int.reduceLE, Int.reduceLT, Int.reduceGE, Int.reduceGT, Int.reduceAdd, Int.reduceSub, Int.reduceMul, Int.reduceToNat, Int.reduceBEq, Int.reduceBNe, Nat.reduceBEq, Nat.reduceDiv, Nat.reduceMod, Int.reduceNeg, Int.reduceEq, ↓wp_unroll, lp43_1]
    repeat (refine wp_draw_E ?_; simp -implicitDefEqProofs (disch := omega) only [go_sem, Nat.reduceAdd, Nat.reduceMul, Nat.reduceSub, Nat.reduceEqDiff, Nat.reduceLT, Nat.reduceLeDiff, reduceIte, reduceCtorEq, Int.reduceLE, Int.reduceLT, Int.reduceGE, Int.reduceGT, Int.reduceAdd, Int.reduceSub, Int.reduceMul, Int.reduceToNat, Int.reduceBEq, Int.reduceBNe, Nat.reduceBEq, Nat.reduceDiv, Nat.reduceMod, Int.reduceNeg, Int.reduceEq, ↓wp_unroll, lp43_1, h0, h6, s6, hsp, H8.v])
    have hb := sameBut_of (p := p) hs
    simp -implicitDefEqProofs (disch := omega) only [go_sem, Nat.reduceAdd, Nat.reduceMul, Nat.reduceSub, Nat.reduceEqDiff, Nat.reduceLT, Nat.reduceLeDiff, reduceIte, reduceCtorEq, Int.reduceLE, Int.reduceLT, Int.reduceGE, Int.reduceGT, Int.reduceAdd, Int.reduceSub, Int.reduceMul, Int.reduceToNat, Int.reduceBEq, Int.reduceBNe, Nat.reduceBEq, Nat.reduceDiv, Nat.reduceMod, Int.reduceNeg, Int.reduceEq, blockE, hR, H8.add, H8.v, hb]
theorem block_ok (σ : Store) (p g : Nat) (h : H8) (r1 r2 : V) (v : V) (b : List UInt8) (bo : List Nat) (hp : σ p = ⟨g, .rw, false, h.v ++ [r1, r2]⟩) (hp2 : p < 1048576) (hb : b.length = 64) (hv : roV σ 8 v = some (.sl .ro 64 (b.map u8), bo)) :
    ∃ σ', Hf fns 43 [.ptr p g 0, v] σ = some (.tup [], σ') ∧ σ' p = ⟨g, .rw, false, (compress b h).v ++ [r1, r2]⟩ ∧ SameBut p σ σ' := by
  obtain ⟨v', σ', h1, h2, h3⟩ := block_run σ p g h r1 r2 v b bo hp hp2 hb hv
  exact ⟨σ', by rw [h1]; simp only at h2; rw [h2], h3⟩
end Go.Vm.Ythfcgllahllkkaa
