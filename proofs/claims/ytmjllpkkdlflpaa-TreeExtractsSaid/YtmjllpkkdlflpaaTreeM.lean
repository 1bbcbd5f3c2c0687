/- Layer 6's laws: their helpers. -/
import Derived.Test.YtmjllpkkdlflpaaTreeA
import Derived.Test.YtmjllpkkdlflpaaVmFit
set_option linter.unusedSectionVars false
set_option linter.unusedSimpArgs false
set_option linter.unusedVariables false
set_option maxHeartbeats 1000000
set_option maxRecDepth 100000
namespace Go.Vm
def fewL (l : List (List UInt8)) : List (List UInt8) := (l.take 40).map (·.take 100)
theorem fewL_len (l : List (List UInt8)) : (fewL l).length = min 40 l.length := by simp [fewL]
theorem fewL_small (l : List (List UInt8)) : Small (fewL l) ∧ (fewL l).length ≤ 40 ∧ ∀ s ∈ fewL l, s.length ≤ 100 := by
  have h1 : ∀ s ∈ fewL l, s.length ≤ 100 := fun s hs => by
    obtain ⟨a, _, rfl⟩ := List.mem_map.1 hs
    simp
    omega
  have h2 : (fewL l).length ≤ 40 := by rw [fewL_len]; omega
  exact ⟨⟨by omega, fun s hs => by have := h1 s hs; omega⟩, h2, h1⟩
theorem sha_x97 : leafH [97] = outP (compress [0, 97, 128, 0, 0, 0, 0, 0, 0, 0, 0, 0, 0, 0, 0, 0, 0, 0, 0, 0, 0, 0, 0, 0, 0, 0, 0, 0, 0, 0, 0, 0, 0, 0, 0, 0, 0, 0, 0, 0, 0, 0, 0, 0, 0, 0, 0, 0, 0, 0, 0, 0, 0, 0, 0, 0, 0, 0, 0, 0, 0, 0, 0, 16] h0).l 8 := by
  unfold leafH sha finish
  rw [absorb_lt h0 [0, 97] (by decide)]
  have e : pad ([0, 97] ++ [128]) ++ lenP (0 + UInt64.ofNat [(0 : UInt8), 97].length) 8 = [0, 97, 128, 0, 0, 0, 0, 0, 0, 0, 0, 0, 0, 0, 0, 0, 0, 0, 0, 0, 0, 0, 0, 0, 0, 0, 0, 0, 0, 0, 0, 0, 0, 0, 0, 0, 0, 0, 0, 0, 0, 0, 0, 0, 0, 0, 0, 0, 0, 0, 0, 0, 0, 0, 0, 0, 0, 0, 0, 0, 0, 0, 0, 16] := by decide +kernel
  simp only
  rw [e, absorb_ge _ _ (by decide), absorb_lt _ _ (by decide)]
  rfl
theorem sha_x98 : leafH [98] = outP (compress [0, 98, 128, 0, 0, 0, 0, 0, 0, 0, 0, 0, 0, 0, 0, 0, 0, 0, 0, 0, 0, 0, 0, 0, 0, 0, 0, 0, 0, 0, 0, 0, 0, 0, 0, 0, 0, 0, 0, 0, 0, 0, 0, 0, 0, 0, 0, 0, 0, 0, 0, 0, 0, 0, 0, 0, 0, 0, 0, 0, 0, 0, 0, 16] h0).l 8 := by
  unfold leafH sha finish
  rw [absorb_lt h0 [0, 98] (by decide)]
  have e : pad ([0, 98] ++ [128]) ++ lenP (0 + UInt64.ofNat [(0 : UInt8), 98].length) 8 = [0, 98, 128, 0, 0, 0, 0, 0, 0, 0, 0, 0, 0, 0, 0, 0, 0, 0, 0, 0, 0, 0, 0, 0, 0, 0, 0, 0, 0, 0, 0, 0, 0, 0, 0, 0, 0, 0, 0, 0, 0, 0, 0, 0, 0, 0, 0, 0, 0, 0, 0, 0, 0, 0, 0, 0, 0, 0, 0, 0, 0, 0, 0, 16] := by decide +kernel
  simp only
  rw [e, absorb_ge _ _ (by decide), absorb_lt _ _ (by decide)]
  rfl
theorem sha_a : leafH [97] ≠ leafH [98] := by
  rw [sha_x97, sha_x98]
  decide +kernel
end Go.Vm
namespace Go.Vm.Ytmjllpkkdlflpaa
open Go.Proofs
def fewI (k : SK) (l : List (List UInt8)) (i : Nat) (s : St) : Prop :=
  i ≤ l.length ∧ i ≤ 40 ∧ s.t 0 = .sl k l.length (l.map V.str) ∧ s.t 4 = .int .i64 (i : Int) ∧ ∃ q gq, q ∈ [448, 1920] ∧ s.t 3 = .sli q gq 0 i 1 ∧ s.σ q = ⟨gq, .rw, true, (((l.take i).map (·.take 100))).map V.str⟩
theorem few_ok (k : SK) (l : List (List UInt8)) (hl : l.length ≤ 140737488355328) : Gf fns 7 [.sl k l.length (l.map V.str)] = some (.osl 1 (fewL l).length ((fewL l).map V.str), []) := by
  refine Gf_start rfl rfl ?_
  simp -implicitDefEqProofs (disch := omega) only [go_sem, Nat.reduceAdd, Nat.reduceMul, Nat.reduceSub, Nat.reduceEqDiff, Nat.reduceLT, Nat.reduceLeDiff, reduceIte, reduceCtorEq, Int.reduceLE, Int.reduceLT, Int.reduceGE, Int.reduceGT, Int.reduceAdd, Int.reduceSub, Int.reduceMul, Int.reduceToNat, Int.reduceBEq, Int.reduceBNe, Nat.reduceBEq, Nat.reduceDiv, Nat.reduceMod, Nat.reduceBEq, Int.reduceNeg, Int.reduceToNat, Int.reduceEq, Nat.reduceLeDiff, go_sem]
  refine wp_loopS (fewI k l) (fun i => l.length - i) 0 ⟨by omega, by omega, by simp -implicitDefEqProofs (disch := omega) only [go_sem, Nat.reduceAdd, Nat.reduceMul, Nat.reduceSub, Nat.reduceEqDiff, Nat.reduceLT, Nat.reduceLeDiff, reduceIte, reduceCtorEq, Int.reduceLE, Int.reduceLT, Int.reduceGE, Int.reduceGT, Int.reduceAdd, Int.reduceSub, Int.reduceMul, Int.reduceToNat, Int.reduceBEq, Int.reduceBNe, Nat.reduceBEq, Nat.reduceDiv, Nat.reduceMod, Nat.reduceBEq, Int.reduceNeg, Int.reduceToNat, Int.reduceEq, Nat.reduceLeDiff, go_sem], by simp -implicitDefEqProofs (disch := omega) only [go_sem, Nat.reduceAdd, Nat.reduceMul, Nat.reduceSub, Nat.reduceEqDiff, Nat.reduceLT, Nat.reduceLeDiff, reduceIte, reduceCtorEq, Int.reduceLE, Int.reduceLT, Int.reduceGE, Int.reduceGT, Int.reduceAdd, Int.reduceSub, Int.reduceMul, Int.reduceToNat, Int.reduceBEq, Int.reduceBNe, Nat.reduceBEq, Nat.reduceDiv, Nat.reduceMod, Nat.reduceBEq, Int.reduceNeg, Int.reduceToNat, Int.reduceEq, Nat.reduceLeDiff, go_sem], 448, 1, by simp, by simp -implicitDefEqProofs (disch := omega) only [go_sem, Nat.reduceAdd, Nat.reduceMul, Nat.reduceSub, Nat.reduceEqDiff, Nat.reduceLT, Nat.reduceLeDiff, reduceIte, reduceCtorEq, Int.reduceLE, Int.reduceLT, Int.reduceGE, Int.reduceGT, Int.reduceAdd, Int.reduceSub, Int.reduceMul, Int.reduceToNat, Int.reduceBEq, Int.reduceBNe, Nat.reduceBEq, Nat.reduceDiv, Nat.reduceMod, Nat.reduceBEq, Int.reduceNeg, Int.reduceToNat, Int.reduceEq, Nat.reduceLeDiff, go_sem], by simp -implicitDefEqProofs (disch := omega) only [go_sem, Nat.reduceAdd, Nat.reduceMul, Nat.reduceSub, Nat.reduceEqDiff, Nat.reduceLT, Nat.reduceLeDiff, reduceIte, reduceCtorEq, Int.reduceLE, Int.reduceLT, Int.reduceGE, Int.reduceGT, Int.reduceAdd, Int.reduceSub, Int.reduceMul, Int.reduceToNat, Int.reduceBEq, Int.reduceBNe, Nat.reduceBEq, Nat.reduceDiv, Nat.reduceMod, Nat.reduceBEq, Int.reduceNeg, Int.reduceToNat, Int.reduceEq, Nat.reduceLeDiff, go_sem]⟩ ?_
  rintro i ⟨t, σ⟩ ⟨hi, hi2, h0, h4, q, gq, hq, h3, sq⟩
  simp only at h0 h4 h3 sq
  have hq0 : q ≠ 1856 := by simp at hq; omega
  have e1 : (q == 1856) = false := beq_no hq0
  have hlx : ((l.take i).map (·.take 100)).length = i := by simp; omega
  by_cases hc : i < l.length ∧ i < 40
  · have hX : (l.take (i + 1)).map (·.take 100) = (l.take i).map (·.take 100) ++ [(gt l i).take 100] := by rw [take_gt hc.1]; simp
    obtain ⟨hc1, hc2⟩ := hc
    generalize (l.take i).map (·.take 100) = X at sq hX hlx
    simp -implicitDefEqProofs (disch := omega) only [go_sem, Nat.reduceAdd, Nat.reduceMul, Nat.reduceSub, Nat.reduceEqDiff, Nat.reduceLT, Nat.reduceLeDiff, reduceIte, reduceCtorEq, Int.reduceLE, Int.reduceLT, Int.reduceGE, Int.reduceGT, Int.reduceAdd, Int.reduceSub, Int.reduceMul, Int.reduceToNat, Int.reduceBEq, Int.reduceBNe, Nat.reduceBEq, Nat.reduceDiv, Nat.reduceMod, Nat.reduceBEq, Int.reduceNeg, Int.reduceToNat, Int.reduceEq, Nat.reduceLeDiff, lp7_0, h0, h4, hc1, hc2]
    refine condC_dec (fun hs => ?_) (fun hs => ?_)
    · simp -implicitDefEqProofs (disch := omega) only [go_sem, Nat.reduceAdd, Nat.reduceMul, Nat.reduceSub, Nat.reduceEqDiff, Nat.reduceLT, Nat.reduceLeDiff, reduceIte, reduceCtorEq, Int.reduceLE, Int.reduceLT, Int.reduceGE, Int.reduceGT, Int.reduceAdd, Int.reduceSub, Int.reduceMul, Int.reduceToNat, Int.reduceBEq, Int.reduceBNe, Nat.reduceBEq, Nat.reduceDiv, Nat.reduceMod, Nat.reduceBEq, Int.reduceNeg, Int.reduceToNat, Int.reduceEq, Nat.reduceLeDiff, h3, h4, sq, e1]
      refine ⟨i + 1, by omega, by omega, by omega, by simp -implicitDefEqProofs (disch := omega) only [go_sem, Nat.reduceAdd, Nat.reduceMul, Nat.reduceSub, Nat.reduceEqDiff, Nat.reduceLT, Nat.reduceLeDiff, reduceIte, reduceCtorEq, Int.reduceLE, Int.reduceLT, Int.reduceGE, Int.reduceGT, Int.reduceAdd, Int.reduceSub, Int.reduceMul, Int.reduceToNat, Int.reduceBEq, Int.reduceBNe, Nat.reduceBEq, Nat.reduceDiv, Nat.reduceMod, Nat.reduceBEq, Int.reduceNeg, Int.reduceToNat, Int.reduceEq, Nat.reduceLeDiff, h0], by simp -implicitDefEqProofs (disch := omega) only [go_sem, Nat.reduceAdd, Nat.reduceMul, Nat.reduceSub, Nat.reduceEqDiff, Nat.reduceLT, Nat.reduceLeDiff, reduceIte, reduceCtorEq, Int.reduceLE, Int.reduceLT, Int.reduceGE, Int.reduceGT, Int.reduceAdd, Int.reduceSub, Int.reduceMul, Int.reduceToNat, Int.reduceBEq, Int.reduceBNe, Nat.reduceBEq, Nat.reduceDiv, Nat.reduceMod, Nat.reduceBEq, Int.reduceNeg, Int.reduceToNat, Int.reduceEq, Nat.reduceLeDiff, go_sem], 1920, (σ 1920).gen + 1, by simp, by simp -implicitDefEqProofs (disch := omega) only [go_sem, Nat.reduceAdd, Nat.reduceMul, Nat.reduceSub, Nat.reduceEqDiff, Nat.reduceLT, Nat.reduceLeDiff, reduceIte, reduceCtorEq, Int.reduceLE, Int.reduceLT, Int.reduceGE, Int.reduceGT, Int.reduceAdd, Int.reduceSub, Int.reduceMul, Int.reduceToNat, Int.reduceBEq, Int.reduceBNe, Nat.reduceBEq, Nat.reduceDiv, Nat.reduceMod, Nat.reduceBEq, Int.reduceNeg, Int.reduceToNat, Int.reduceEq, Nat.reduceLeDiff, go_sem], ?_⟩
      rw [hX]; simp -implicitDefEqProofs (disch := omega) only [go_sem, Nat.reduceAdd, Nat.reduceMul, Nat.reduceSub, Nat.reduceEqDiff, Nat.reduceLT, Nat.reduceLeDiff, reduceIte, reduceCtorEq, Int.reduceLE, Int.reduceLT, Int.reduceGE, Int.reduceGT, Int.reduceAdd, Int.reduceSub, Int.reduceMul, Int.reduceToNat, Int.reduceBEq, Int.reduceBNe, Nat.reduceBEq, Nat.reduceDiv, Nat.reduceMod, Nat.reduceBEq, Int.reduceNeg, Int.reduceToNat, Int.reduceEq, Nat.reduceLeDiff, go_sem]
    · have ht : (gt l i).take 100 = gt l i := take_all (by omega)
      rw [ht] at hX
      simp -implicitDefEqProofs (disch := omega) only [go_sem, Nat.reduceAdd, Nat.reduceMul, Nat.reduceSub, Nat.reduceEqDiff, Nat.reduceLT, Nat.reduceLeDiff, reduceIte, reduceCtorEq, Int.reduceLE, Int.reduceLT, Int.reduceGE, Int.reduceGT, Int.reduceAdd, Int.reduceSub, Int.reduceMul, Int.reduceToNat, Int.reduceBEq, Int.reduceBNe, Nat.reduceBEq, Nat.reduceDiv, Nat.reduceMod, Nat.reduceBEq, Int.reduceNeg, Int.reduceToNat, Int.reduceEq, Nat.reduceLeDiff, h3, h4, sq, e1]
      refine ⟨i + 1, by omega, by omega, by omega, by simp -implicitDefEqProofs (disch := omega) only [go_sem, Nat.reduceAdd, Nat.reduceMul, Nat.reduceSub, Nat.reduceEqDiff, Nat.reduceLT, Nat.reduceLeDiff, reduceIte, reduceCtorEq, Int.reduceLE, Int.reduceLT, Int.reduceGE, Int.reduceGT, Int.reduceAdd, Int.reduceSub, Int.reduceMul, Int.reduceToNat, Int.reduceBEq, Int.reduceBNe, Nat.reduceBEq, Nat.reduceDiv, Nat.reduceMod, Nat.reduceBEq, Int.reduceNeg, Int.reduceToNat, Int.reduceEq, Nat.reduceLeDiff, h0], by simp -implicitDefEqProofs (disch := omega) only [go_sem, Nat.reduceAdd, Nat.reduceMul, Nat.reduceSub, Nat.reduceEqDiff, Nat.reduceLT, Nat.reduceLeDiff, reduceIte, reduceCtorEq, Int.reduceLE, Int.reduceLT, Int.reduceGE, Int.reduceGT, Int.reduceAdd, Int.reduceSub, Int.reduceMul, Int.reduceToNat, Int.reduceBEq, Int.reduceBNe, Nat.reduceBEq, Nat.reduceDiv, Nat.reduceMod, Nat.reduceBEq, Int.reduceNeg, Int.reduceToNat, Int.reduceEq, Nat.reduceLeDiff, go_sem], 1920, (σ 1920).gen + 1, by simp, by simp -implicitDefEqProofs (disch := omega) only [go_sem, Nat.reduceAdd, Nat.reduceMul, Nat.reduceSub, Nat.reduceEqDiff, Nat.reduceLT, Nat.reduceLeDiff, reduceIte, reduceCtorEq, Int.reduceLE, Int.reduceLT, Int.reduceGE, Int.reduceGT, Int.reduceAdd, Int.reduceSub, Int.reduceMul, Int.reduceToNat, Int.reduceBEq, Int.reduceBNe, Nat.reduceBEq, Nat.reduceDiv, Nat.reduceMod, Nat.reduceBEq, Int.reduceNeg, Int.reduceToNat, Int.reduceEq, Nat.reduceLeDiff, go_sem], ?_⟩
      rw [hX]; simp -implicitDefEqProofs (disch := omega) only [go_sem, Nat.reduceAdd, Nat.reduceMul, Nat.reduceSub, Nat.reduceEqDiff, Nat.reduceLT, Nat.reduceLeDiff, reduceIte, reduceCtorEq, Int.reduceLE, Int.reduceLT, Int.reduceGE, Int.reduceGT, Int.reduceAdd, Int.reduceSub, Int.reduceMul, Int.reduceToNat, Int.reduceBEq, Int.reduceBNe, Nat.reduceBEq, Nat.reduceDiv, Nat.reduceMod, Nat.reduceBEq, Int.reduceNeg, Int.reduceToNat, Int.reduceEq, Nat.reduceLeDiff, go_sem]
  · have hf : fewL l = (l.take i).map (·.take 100) := by
      unfold fewL
      rcases Nat.lt_or_ge i l.length with h | h
      · obtain rfl : i = 40 := by omega
        rfl
      · rw [take_all (show l.length ≤ 40 by omega), take_all h]
    rw [hf]
    generalize (l.take i).map (·.take 100) = X at sq hlx
    by_cases hc1 : i < l.length
    · have hc2 : ¬ i < 40 := by omega
      simp -implicitDefEqProofs (disch := omega) only [go_sem, Nat.reduceAdd, Nat.reduceMul, Nat.reduceSub, Nat.reduceEqDiff, Nat.reduceLT, Nat.reduceLeDiff, reduceIte, reduceCtorEq, Int.reduceLE, Int.reduceLT, Int.reduceGE, Int.reduceGT, Int.reduceAdd, Int.reduceSub, Int.reduceMul, Int.reduceToNat, Int.reduceBEq, Int.reduceBNe, Nat.reduceBEq, Nat.reduceDiv, Nat.reduceMod, Nat.reduceBEq, Int.reduceNeg, Int.reduceToNat, Int.reduceEq, Nat.reduceLeDiff, lp7_0, h0, h4, hc1, hc2, h3, sq, hlx]
    · simp -implicitDefEqProofs (disch := omega) only [go_sem, Nat.reduceAdd, Nat.reduceMul, Nat.reduceSub, Nat.reduceEqDiff, Nat.reduceLT, Nat.reduceLeDiff, reduceIte, reduceCtorEq, Int.reduceLE, Int.reduceLT, Int.reduceGE, Int.reduceGT, Int.reduceAdd, Int.reduceSub, Int.reduceMul, Int.reduceToNat, Int.reduceBEq, Int.reduceBNe, Nat.reduceBEq, Nat.reduceDiv, Nat.reduceMod, Nat.reduceBEq, Int.reduceNeg, Int.reduceToNat, Int.reduceEq, Nat.reduceLeDiff, lp7_0, h0, h4, hc1, h3, sq, hlx]
def sameJ (k j : SK) (a b : List (List UInt8)) (i : Nat) (s : St) : Prop := i ≤ a.length ∧ s.t 0 = .sl k a.length (a.map V.str) ∧ s.t 1 = .sl j b.length (b.map V.str) ∧ s.t 5 = .int .i64 (i : Int) ∧ a.take i = b.take i
theorem same_ok (k j : SK) (a b : List (List UInt8)) (ha : a.length ≤ 140737488355328) : Gf fns 13 [.sl k a.length (a.map V.str), .sl j b.length (b.map V.str)] = some (.bool (decide (a = b)), []) := by
  refine Gf_start rfl rfl ?_
  simp -implicitDefEqProofs (disch := omega) only [go_sem, Nat.reduceAdd, Nat.reduceMul, Nat.reduceSub, Nat.reduceEqDiff, Nat.reduceLT, Nat.reduceLeDiff, reduceIte, reduceCtorEq, Int.reduceLE, Int.reduceLT, Int.reduceGE, Int.reduceGT, Int.reduceAdd, Int.reduceSub, Int.reduceMul, Int.reduceToNat, Int.reduceBEq, Int.reduceBNe, Nat.reduceBEq, Nat.reduceDiv, Nat.reduceMod, Nat.reduceBEq, Int.reduceNeg, Int.reduceToNat, Int.reduceEq, Nat.reduceLeDiff, go_sem]
  refine condC_dec (fun h => ?_) (fun h => ?_)
  · simp -implicitDefEqProofs (disch := omega) only [go_sem, Nat.reduceAdd, Nat.reduceMul, Nat.reduceSub, Nat.reduceEqDiff, Nat.reduceLT, Nat.reduceLeDiff, reduceIte, reduceCtorEq, Int.reduceLE, Int.reduceLT, Int.reduceGE, Int.reduceGT, Int.reduceAdd, Int.reduceSub, Int.reduceMul, Int.reduceToNat, Int.reduceBEq, Int.reduceBNe, Nat.reduceBEq, Nat.reduceDiv, Nat.reduceMod, Nat.reduceBEq, Int.reduceNeg, Int.reduceToNat, Int.reduceEq, Nat.reduceLeDiff, go_sem]
    refine wp_loopS (sameJ k j a b) (fun i => a.length - i) 0 ⟨by omega, by simp -implicitDefEqProofs (disch := omega) only [go_sem, Nat.reduceAdd, Nat.reduceMul, Nat.reduceSub, Nat.reduceEqDiff, Nat.reduceLT, Nat.reduceLeDiff, reduceIte, reduceCtorEq, Int.reduceLE, Int.reduceLT, Int.reduceGE, Int.reduceGT, Int.reduceAdd, Int.reduceSub, Int.reduceMul, Int.reduceToNat, Int.reduceBEq, Int.reduceBNe, Nat.reduceBEq, Nat.reduceDiv, Nat.reduceMod, Nat.reduceBEq, Int.reduceNeg, Int.reduceToNat, Int.reduceEq, Nat.reduceLeDiff, h], by simp -implicitDefEqProofs (disch := omega) only [go_sem, Nat.reduceAdd, Nat.reduceMul, Nat.reduceSub, Nat.reduceEqDiff, Nat.reduceLT, Nat.reduceLeDiff, reduceIte, reduceCtorEq, Int.reduceLE, Int.reduceLT, Int.reduceGE, Int.reduceGT, Int.reduceAdd, Int.reduceSub, Int.reduceMul, Int.reduceToNat, Int.reduceBEq, Int.reduceBNe, Nat.reduceBEq, Nat.reduceDiv, Nat.reduceMod, Nat.reduceBEq, Int.reduceNeg, Int.reduceToNat, Int.reduceEq, Nat.reduceLeDiff, go_sem], by simp -implicitDefEqProofs (disch := omega) only [go_sem, Nat.reduceAdd, Nat.reduceMul, Nat.reduceSub, Nat.reduceEqDiff, Nat.reduceLT, Nat.reduceLeDiff, reduceIte, reduceCtorEq, Int.reduceLE, Int.reduceLT, Int.reduceGE, Int.reduceGT, Int.reduceAdd, Int.reduceSub, Int.reduceMul, Int.reduceToNat, Int.reduceBEq, Int.reduceBNe, Nat.reduceBEq, Nat.reduceDiv, Nat.reduceMod, Nat.reduceBEq, Int.reduceNeg, Int.reduceToNat, Int.reduceEq, Nat.reduceLeDiff, go_sem], rfl⟩ ?_
    rintro i ⟨t, σ⟩ ⟨hi, h0, h1, h5, ht⟩
    simp only at h0 h1 h5
    simp -implicitDefEqProofs (disch := omega) only [go_sem, Nat.reduceAdd, Nat.reduceMul, Nat.reduceSub, Nat.reduceEqDiff, Nat.reduceLT, Nat.reduceLeDiff, reduceIte, reduceCtorEq, Int.reduceLE, Int.reduceLT, Int.reduceGE, Int.reduceGT, Int.reduceAdd, Int.reduceSub, Int.reduceMul, Int.reduceToNat, Int.reduceBEq, Int.reduceBNe, Nat.reduceBEq, Nat.reduceDiv, Nat.reduceMod, Nat.reduceBEq, Int.reduceNeg, Int.reduceToNat, Int.reduceEq, Nat.reduceLeDiff, lp13_0, h0, h5]
    refine condC_dec (fun hlt => ?_) (fun hge => ?_)
    · simp -implicitDefEqProofs (disch := omega) only [go_sem, Nat.reduceAdd, Nat.reduceMul, Nat.reduceSub, Nat.reduceEqDiff, Nat.reduceLT, Nat.reduceLeDiff, reduceIte, reduceCtorEq, Int.reduceLE, Int.reduceLT, Int.reduceGE, Int.reduceGT, Int.reduceAdd, Int.reduceSub, Int.reduceMul, Int.reduceToNat, Int.reduceBEq, Int.reduceBNe, Nat.reduceBEq, Nat.reduceDiv, Nat.reduceMod, Nat.reduceBEq, Int.reduceNeg, Int.reduceToNat, Int.reduceEq, Nat.reduceLeDiff, h0, h1, h5]
      refine wp_draw_E ?_
      simp -implicitDefEqProofs (disch := omega) only [go_sem, Nat.reduceAdd, Nat.reduceMul, Nat.reduceSub, Nat.reduceEqDiff, Nat.reduceLT, Nat.reduceLeDiff, reduceIte, reduceCtorEq, Int.reduceLE, Int.reduceLT, Int.reduceGE, Int.reduceGT, Int.reduceAdd, Int.reduceSub, Int.reduceMul, Int.reduceToNat, Int.reduceBEq, Int.reduceBNe, Nat.reduceBEq, Nat.reduceDiv, Nat.reduceMod, Nat.reduceBEq, Int.reduceNeg, Int.reduceToNat, Int.reduceEq, Nat.reduceLeDiff, h0, h1, h5]
      refine condC_dec (fun he => ?_) (fun he => ?_)
      · simp -implicitDefEqProofs (disch := omega) only [go_sem, Nat.reduceAdd, Nat.reduceMul, Nat.reduceSub, Nat.reduceEqDiff, Nat.reduceLT, Nat.reduceLeDiff, reduceIte, reduceCtorEq, Int.reduceLE, Int.reduceLT, Int.reduceGE, Int.reduceGT, Int.reduceAdd, Int.reduceSub, Int.reduceMul, Int.reduceToNat, Int.reduceBEq, Int.reduceBNe, Nat.reduceBEq, Nat.reduceDiv, Nat.reduceMod, Nat.reduceBEq, Int.reduceNeg, Int.reduceToNat, Int.reduceEq, Nat.reduceLeDiff, h5]
        refine ⟨i + 1, by omega, by omega, by simp -implicitDefEqProofs (disch := omega) only [go_sem, Nat.reduceAdd, Nat.reduceMul, Nat.reduceSub, Nat.reduceEqDiff, Nat.reduceLT, Nat.reduceLeDiff, reduceIte, reduceCtorEq, Int.reduceLE, Int.reduceLT, Int.reduceGE, Int.reduceGT, Int.reduceAdd, Int.reduceSub, Int.reduceMul, Int.reduceToNat, Int.reduceBEq, Int.reduceBNe, Nat.reduceBEq, Nat.reduceDiv, Nat.reduceMod, Nat.reduceBEq, Int.reduceNeg, Int.reduceToNat, Int.reduceEq, Nat.reduceLeDiff, h0], by simp -implicitDefEqProofs (disch := omega) only [go_sem, Nat.reduceAdd, Nat.reduceMul, Nat.reduceSub, Nat.reduceEqDiff, Nat.reduceLT, Nat.reduceLeDiff, reduceIte, reduceCtorEq, Int.reduceLE, Int.reduceLT, Int.reduceGE, Int.reduceGT, Int.reduceAdd, Int.reduceSub, Int.reduceMul, Int.reduceToNat, Int.reduceBEq, Int.reduceBNe, Nat.reduceBEq, Nat.reduceDiv, Nat.reduceMod, Nat.reduceBEq, Int.reduceNeg, Int.reduceToNat, Int.reduceEq, Nat.reduceLeDiff, h1], by simp -implicitDefEqProofs (disch := omega) only [go_sem, Nat.reduceAdd, Nat.reduceMul, Nat.reduceSub, Nat.reduceEqDiff, Nat.reduceLT, Nat.reduceLeDiff, reduceIte, reduceCtorEq, Int.reduceLE, Int.reduceLT, Int.reduceGE, Int.reduceGT, Int.reduceAdd, Int.reduceSub, Int.reduceMul, Int.reduceToNat, Int.reduceBEq, Int.reduceBNe, Nat.reduceBEq, Nat.reduceDiv, Nat.reduceMod, Nat.reduceBEq, Int.reduceNeg, Int.reduceToNat, Int.reduceEq, Nat.reduceLeDiff, go_sem], ?_⟩
        rw [take_gt hlt, take_gt (show i < b.length by omega), ht, he]
      · have hne : a ≠ b := fun hab => he (by rw [hab])
        simp -implicitDefEqProofs (disch := omega) only [go_sem, Nat.reduceAdd, Nat.reduceMul, Nat.reduceSub, Nat.reduceEqDiff, Nat.reduceLT, Nat.reduceLeDiff, reduceIte, reduceCtorEq, Int.reduceLE, Int.reduceLT, Int.reduceGE, Int.reduceGT, Int.reduceAdd, Int.reduceSub, Int.reduceMul, Int.reduceToNat, Int.reduceBEq, Int.reduceBNe, Nat.reduceBEq, Nat.reduceDiv, Nat.reduceMod, Nat.reduceBEq, Int.reduceNeg, Int.reduceToNat, Int.reduceEq, Nat.reduceLeDiff, hne]
    · have hab : a = b := by
        have e1 : a.take i = a := List.take_of_length_le (by omega)
        have e2 : b.take i = b := List.take_of_length_le (by omega)
        rw [← e1, ht, e2]
      simp -implicitDefEqProofs (disch := omega) only [go_sem, Nat.reduceAdd, Nat.reduceMul, Nat.reduceSub, Nat.reduceEqDiff, Nat.reduceLT, Nat.reduceLeDiff, reduceIte, reduceCtorEq, Int.reduceLE, Int.reduceLT, Int.reduceGE, Int.reduceGT, Int.reduceAdd, Int.reduceSub, Int.reduceMul, Int.reduceToNat, Int.reduceBEq, Int.reduceBNe, Nat.reduceBEq, Nat.reduceDiv, Nat.reduceMod, Nat.reduceBEq, Int.reduceNeg, Int.reduceToNat, Int.reduceEq, Nat.reduceLeDiff, hab]
  · have hne : a ≠ b := fun hab => h (by rw [hab])
    simp -implicitDefEqProofs (disch := omega) only [go_sem, Nat.reduceAdd, Nat.reduceMul, Nat.reduceSub, Nat.reduceEqDiff, Nat.reduceLT, Nat.reduceLeDiff, reduceIte, reduceCtorEq, Int.reduceLE, Int.reduceLT, Int.reduceGE, Int.reduceGT, Int.reduceAdd, Int.reduceSub, Int.reduceMul, Int.reduceToNat, Int.reduceBEq, Int.reduceBNe, Nat.reduceBEq, Nat.reduceDiv, Nat.reduceMod, Nat.reduceBEq, Int.reduceNeg, Int.reduceToNat, Int.reduceEq, Nat.reduceLeDiff, hne]
theorem awake_ok : Gf fns 10 [] = some (.bool true, []) := by
  have hs : Small [[97]] := ⟨by simp, by simp⟩
  have hp := Prove_ok 1 [[97]] .ro 0 (by simp) (by simp) hs
  rw [pathR_no (by simp)] at hp
  have hr := Root_ok 1 [[97]] .ro (by simp) hs
  have hv := Verify_ok (mroot [[97]]) [97] 0 1 .nil [] (by omega) (by omega) (by simp) (by simp)
  have hv2 := Verify_ok (mroot [[97]]) [98] 0 1 .nil [] (by omega) (by omega) (by simp) (by simp)
  have e1 : verifyB (mroot [[97]]) [97] 0 1 [] = true := by rw [mroot_one]; simp [verifyB, foldR]
  have e2 : verifyB (mroot [[97]]) [98] 0 1 [] = false := by
    rw [mroot_one]
    have := sha_a
    simp [verifyB, foldR]
    exact fun h => this h.symm
  rw [e1] at hv
  rw [e2] at hv2
  refine Gf_start rfl rfl ?_
  simp -implicitDefEqProofs (disch := omega) only [go_sem, Nat.reduceAdd, Nat.reduceMul, Nat.reduceSub, Nat.reduceEqDiff, Nat.reduceLT, Nat.reduceLeDiff, reduceIte, reduceCtorEq, Int.reduceLE, Int.reduceLT, Int.reduceGE, Int.reduceGT, Int.reduceAdd, Int.reduceSub, Int.reduceMul, Int.reduceToNat, Int.reduceBEq, Int.reduceBNe, Nat.reduceBEq, Nat.reduceDiv, Nat.reduceMod, Nat.reduceBEq, Int.reduceNeg, Int.reduceToNat, Int.reduceEq, Nat.reduceLeDiff, pathV, List.reverse_nil] at hp
  simp -implicitDefEqProofs (disch := omega) only [go_sem, Nat.reduceAdd, Nat.reduceMul, Nat.reduceSub, Nat.reduceEqDiff, Nat.reduceLT, Nat.reduceLeDiff, reduceIte, reduceCtorEq, Int.reduceLE, Int.reduceLT, Int.reduceGE, Int.reduceGT, Int.reduceAdd, Int.reduceSub, Int.reduceMul, Int.reduceToNat, Int.reduceBEq, Int.reduceBNe, Nat.reduceBEq, Nat.reduceDiv, Nat.reduceMod, Nat.reduceBEq, Int.reduceNeg, Int.reduceToNat, Int.reduceEq, Nat.reduceLeDiff, go_sem] at hr
  simp -implicitDefEqProofs (disch := omega) only [go_sem, Nat.reduceAdd, Nat.reduceMul, Nat.reduceSub, Nat.reduceEqDiff, Nat.reduceLT, Nat.reduceLeDiff, reduceIte, reduceCtorEq, Int.reduceLE, Int.reduceLT, Int.reduceGE, Int.reduceGT, Int.reduceAdd, Int.reduceSub, Int.reduceMul, Int.reduceToNat, Int.reduceBEq, Int.reduceBNe, Nat.reduceBEq, Nat.reduceDiv, Nat.reduceMod, Nat.reduceBEq, Int.reduceNeg, Int.reduceToNat, Int.reduceEq, Nat.reduceLeDiff, go_sem] at hv
  simp -implicitDefEqProofs (disch := omega) only [go_sem, Nat.reduceAdd, Nat.reduceMul, Nat.reduceSub, Nat.reduceEqDiff, Nat.reduceLT, Nat.reduceLeDiff, reduceIte, reduceCtorEq, Int.reduceLE, Int.reduceLT, Int.reduceGE, Int.reduceGT, Int.reduceAdd, Int.reduceSub, Int.reduceMul, Int.reduceToNat, Int.reduceBEq, Int.reduceBNe, Nat.reduceBEq, Nat.reduceDiv, Nat.reduceMod, Nat.reduceBEq, Int.reduceNeg, Int.reduceToNat, Int.reduceEq, Nat.reduceLeDiff, go_sem] at hv2
  simp -implicitDefEqProofs (disch := omega) only [go_sem, Nat.reduceAdd, Nat.reduceMul, Nat.reduceSub, Nat.reduceEqDiff, Nat.reduceLT, Nat.reduceLeDiff, reduceIte, reduceCtorEq, Int.reduceLE, Int.reduceLT, Int.reduceGE, Int.reduceGT, Int.reduceAdd, Int.reduceSub, Int.reduceMul, Int.reduceToNat, Int.reduceBEq, Int.reduceBNe, Nat.reduceBEq, Nat.reduceDiv, Nat.reduceMod, Nat.reduceBEq, Int.reduceNeg, Int.reduceToNat, Int.reduceEq, Nat.reduceLeDiff, hp, hr, hv, hv2]
theorem uStr : Try.prog.underlying 9 = some .string := by kernel_rfl
theorem uInt : Try.prog.underlying 3 = some (.int .i64) := by kernel_rfl
theorem uStrs : Try.prog.underlying 22 = some (.slice 9) := by kernel_rfl
theorem bStr : Try.prog.bytesOf 9 = 16 := by kernel_rfl
theorem fit_strs {d : Nat} {x : V} (h : FitsV Try.prog (d + 2) 22 x) : ∃ (k : SK) (l : List (List UInt8)), x = .sl k l.length (l.map V.str) ∧ (k = .nil → l = []) ∧ k ≠ .zero ∧ l.length * 16 ≤ reachBytes ∧ ∀ a ∈ l, a.length ≤ reachBytes := by
  have := fit_slice (d := d + 1) V.str (fun s => s.length ≤ reachBytes) uStrs (fun r hr => fits_str uStr hr) h
  rw [bStr] at this
  exact this
theorem treeTurns_main (xs : List V) (h : FitsA Try.prog 8 [22, 22] xs) : fnA (tabW fns) ([22, 22].map fun _ => Mode.bor) ir4 xs (fun p => p = (.bool true, [])) := by
  obtain ⟨x, ys, rfl, h1, h⟩ := fitsA_s h
  obtain ⟨y, ys, rfl, h2, h⟩ := fitsA_s h
  obtain rfl := fitsA_0 h
  obtain ⟨k1, l1, rfl, hk1, _, hb1, _⟩ := fit_strs h1
  obtain ⟨k2, l2, rfl, hk2, _, hb2, _⟩ := fit_strs h2
  have hre := reach_lt
  have f1 := few_ok k1 l1 (by omega)
  have f2 := few_ok k2 l2 (by omega)
  obtain ⟨s1, q1, _⟩ := fewL_small l1
  obtain ⟨s2, q2, _⟩ := fewL_small l2
  generalize fewL l1 = a at *
  generalize fewL l2 = b at *
  have ra := Root_ok a.length a .ro (Nat.le_refl _) s1
  have rb := Root_ok b.length b .ro (Nat.le_refl _) s2
  have qa := RRoot_ok a.length a .ro (Nat.le_refl _) s1
  have qb := RRoot_ok b.length b .ro (Nat.le_refl _) s2
  have sm := same_ok .ro .ro a b (by omega)
  refine fnA_start rfl ?_
  by_cases hab : a = b
  · subst hab
    simp -implicitDefEqProofs (disch := omega) only [go_sem, Nat.reduceAdd, Nat.reduceMul, Nat.reduceSub, Nat.reduceEqDiff, Nat.reduceLT, Nat.reduceLeDiff, reduceIte, reduceCtorEq, Int.reduceLE, Int.reduceLT, Int.reduceGE, Int.reduceGT, Int.reduceAdd, Int.reduceSub, Int.reduceMul, Int.reduceToNat, Int.reduceBEq, Int.reduceBNe, Nat.reduceBEq, Nat.reduceDiv, Nat.reduceMod, Nat.reduceBEq, Int.reduceNeg, Int.reduceToNat, Int.reduceEq, Nat.reduceLeDiff, f1, f2, awake_ok, ra, rb, qa, qb, sm]
  · by_cases hr : mroot a = mroot b
    · simp -implicitDefEqProofs (disch := omega) only [go_sem, Nat.reduceAdd, Nat.reduceMul, Nat.reduceSub, Nat.reduceEqDiff, Nat.reduceLT, Nat.reduceLeDiff, reduceIte, reduceCtorEq, Int.reduceLE, Int.reduceLT, Int.reduceGE, Int.reduceGT, Int.reduceAdd, Int.reduceSub, Int.reduceMul, Int.reduceToNat, Int.reduceBEq, Int.reduceBNe, Nat.reduceBEq, Nat.reduceDiv, Nat.reduceMod, Nat.reduceBEq, Int.reduceNeg, Int.reduceToNat, Int.reduceEq, Nat.reduceLeDiff, f1, f2, awake_ok, ra, rb, qa, qb, sm, hab, hr]
    · simp -implicitDefEqProofs (disch := omega) only [go_sem, Nat.reduceAdd, Nat.reduceMul, Nat.reduceSub, Nat.reduceEqDiff, Nat.reduceLT, Nat.reduceLeDiff, reduceIte, reduceCtorEq, Int.reduceLE, Int.reduceLT, Int.reduceGE, Int.reduceGT, Int.reduceAdd, Int.reduceSub, Int.reduceMul, Int.reduceToNat, Int.reduceBEq, Int.reduceBNe, Nat.reduceBEq, Nat.reduceDiv, Nat.reduceMod, Nat.reduceBEq, Int.reduceNeg, Int.reduceToNat, Int.reduceEq, Nat.reduceLeDiff, f1, f2, awake_ok, ra, rb, qa, qb, sm, hab, hr]
theorem verify_path {l : List (List UInt8)} {i : Nat} (hi : i < l.length) : verifyB (mroot l) (gt l i) i l.length (pathR l i).reverse = true := by
  have h1 := foldR_path l.length l i (Nat.le_refl _) hi
  have h2 := (pathR_len l.length l i (Nat.le_refl _)).2
  unfold verifyB
  rw [List.reverse_reverse, h1]
  have : ((pathR l i).reverse.all fun h => decide (h.length = 32)) = true := by
    rw [List.all_eq_true]
    intro a ha
    simpa using h2 a (List.mem_reverse.1 ha)
  rw [this]
  simp
theorem treeProves_main (xs : List V) (h : FitsA Try.prog 8 [22, 3] xs) : fnA (tabW fns) ([22, 3].map fun _ => Mode.bor) ir3 xs (fun p => p = (.bool true, [])) := by
  obtain ⟨x, ys, rfl, h1, h⟩ := fitsA_s h
  obtain ⟨y, ys, rfl, h2, h⟩ := fitsA_s h
  obtain rfl := fitsA_0 h
  obtain ⟨k1, l1, rfl, hk1, _, hb1, _⟩ := fit_strs h1
  obtain ⟨n, rfl, hn⟩ := fit_int uInt h2
  have hre := reach_lt
  have f1 := few_ok k1 l1 (by omega)
  obtain ⟨s1, q1, hs100⟩ := fewL_small l1
  generalize fewL l1 = a at *
  have ra := Root_ok a.length a .ro (Nat.le_refl _) s1
  have qa := RRoot_ok a.length a .ro (Nat.le_refl _) s1
  refine fnA_start rfl ?_
  by_cases hin : n < 0 ∨ (a.length : Int) ≤ n
  · have pn := ProveNo_ok a .ro n hin
    have vn := VerifyNo_ok (mroot a) [97] n a.length (.sl .nil 0 []) rfl hin
    by_cases h0 : n < 0
    · simp -implicitDefEqProofs (disch := omega) only [go_sem, Nat.reduceAdd, Nat.reduceMul, Nat.reduceSub, Nat.reduceEqDiff, Nat.reduceLT, Nat.reduceLeDiff, reduceIte, reduceCtorEq, Int.reduceLE, Int.reduceLT, Int.reduceGE, Int.reduceGT, Int.reduceAdd, Int.reduceSub, Int.reduceMul, Int.reduceToNat, Int.reduceBEq, Int.reduceBNe, Nat.reduceBEq, Nat.reduceDiv, Nat.reduceMod, Nat.reduceBEq, Int.reduceNeg, Int.reduceToNat, Int.reduceEq, Nat.reduceLeDiff, f1, awake_ok, ra, qa, pn, vn, h0]
    · simp -implicitDefEqProofs (disch := omega) only [go_sem, Nat.reduceAdd, Nat.reduceMul, Nat.reduceSub, Nat.reduceEqDiff, Nat.reduceLT, Nat.reduceLeDiff, reduceIte, reduceCtorEq, Int.reduceLE, Int.reduceLT, Int.reduceGE, Int.reduceGT, Int.reduceAdd, Int.reduceSub, Int.reduceMul, Int.reduceToNat, Int.reduceBEq, Int.reduceBNe, Nat.reduceBEq, Nat.reduceDiv, Nat.reduceMod, Nat.reduceBEq, Int.reduceNeg, Int.reduceToNat, Int.reduceEq, Nat.reduceLeDiff, f1, awake_ok, ra, qa, pn, vn, h0]
  · obtain ⟨i, rfl⟩ : ∃ i : Nat, n = (i : Int) := ⟨n.toNat, by omega⟩
    have hi : i < a.length := by omega
    have pr := Prove_ok a.length a .ro i (Nat.le_refl _) hi s1
    have pa := Path_ok a.length a .ro i (Nat.le_refl _) hi s1
    have hpl := (pathR_len a.length a i (Nat.le_refl _)).1
    have g100 := hs100 _ (gt_mem hi)
    have hlf := Leaf_ok (gt a i) (by omega)
    have hrs := refSha_ok (0 :: gt a i) (by simp; omega)
    have hv : ∀ k, Gf fns 12 [.str (mroot a), .str (gt a i), .int .i64 (i : Int), .int .i64 (a.length : Int), .sl k (pathR a i).length ((pathR a i).reverse.map V.str)] = some (.bool true, []) := fun k => by
      have := Verify_ok (mroot a) (gt a i) i a.length k (pathR a i).reverse hi (by omega) (by simp; omega) (by omega)
      rw [verify_path hi, List.length_reverse] at this
      exact this
    have sm : ∀ k, Gf fns 13 [.sl k (pathR a i).length ((pathR a i).reverse.map V.str), .sl .ro (pathR a i).length ((pathR a i).reverse.map V.str)] = some (.bool true, []) := fun k => by
      have := same_ok k .ro (pathR a i).reverse (pathR a i).reverse (by simp; omega)
      rw [List.length_reverse, decide_eq_true rfl] at this
      exact this
    have hrl : (pathR a i).reverse.length = (pathR a i).length := List.length_reverse
    generalize pathR a i = P at *
    by_cases hp : P = []
    · subst hp
      have hv2 := hv .nil
      have sm2 := sm .nil
      simp -implicitDefEqProofs (disch := omega) only [go_sem, Nat.reduceAdd, Nat.reduceMul, Nat.reduceSub, Nat.reduceEqDiff, Nat.reduceLT, Nat.reduceLeDiff, reduceIte, reduceCtorEq, Int.reduceLE, Int.reduceLT, Int.reduceGE, Int.reduceGT, Int.reduceAdd, Int.reduceSub, Int.reduceMul, Int.reduceToNat, Int.reduceBEq, Int.reduceBNe, Nat.reduceBEq, Nat.reduceDiv, Nat.reduceMod, Nat.reduceBEq, Int.reduceNeg, Int.reduceToNat, Int.reduceEq, Nat.reduceLeDiff, pathV, List.reverse_nil] at pr
      simp -implicitDefEqProofs (disch := omega) only [go_sem, Nat.reduceAdd, Nat.reduceMul, Nat.reduceSub, Nat.reduceEqDiff, Nat.reduceLT, Nat.reduceLeDiff, reduceIte, reduceCtorEq, Int.reduceLE, Int.reduceLT, Int.reduceGE, Int.reduceGT, Int.reduceAdd, Int.reduceSub, Int.reduceMul, Int.reduceToNat, Int.reduceBEq, Int.reduceBNe, Nat.reduceBEq, Nat.reduceDiv, Nat.reduceMod, Nat.reduceBEq, Int.reduceNeg, Int.reduceToNat, Int.reduceEq, Nat.reduceLeDiff, List.reverse_nil] at pa
      simp -implicitDefEqProofs (disch := omega) only [go_sem, Nat.reduceAdd, Nat.reduceMul, Nat.reduceSub, Nat.reduceEqDiff, Nat.reduceLT, Nat.reduceLeDiff, reduceIte, reduceCtorEq, Int.reduceLE, Int.reduceLT, Int.reduceGE, Int.reduceGT, Int.reduceAdd, Int.reduceSub, Int.reduceMul, Int.reduceToNat, Int.reduceBEq, Int.reduceBNe, Nat.reduceBEq, Nat.reduceDiv, Nat.reduceMod, Nat.reduceBEq, Int.reduceNeg, Int.reduceToNat, Int.reduceEq, Nat.reduceLeDiff, List.reverse_nil] at hv2
      simp -implicitDefEqProofs (disch := omega) only [go_sem, Nat.reduceAdd, Nat.reduceMul, Nat.reduceSub, Nat.reduceEqDiff, Nat.reduceLT, Nat.reduceLeDiff, reduceIte, reduceCtorEq, Int.reduceLE, Int.reduceLT, Int.reduceGE, Int.reduceGT, Int.reduceAdd, Int.reduceSub, Int.reduceMul, Int.reduceToNat, Int.reduceBEq, Int.reduceBNe, Nat.reduceBEq, Nat.reduceDiv, Nat.reduceMod, Nat.reduceBEq, Int.reduceNeg, Int.reduceToNat, Int.reduceEq, Nat.reduceLeDiff, List.reverse_nil] at sm2
      simp -implicitDefEqProofs (disch := omega) only [go_sem, Nat.reduceAdd, Nat.reduceMul, Nat.reduceSub, Nat.reduceEqDiff, Nat.reduceLT, Nat.reduceLeDiff, reduceIte, reduceCtorEq, Int.reduceLE, Int.reduceLT, Int.reduceGE, Int.reduceGT, Int.reduceAdd, Int.reduceSub, Int.reduceMul, Int.reduceToNat, Int.reduceBEq, Int.reduceBNe, Nat.reduceBEq, Nat.reduceDiv, Nat.reduceMod, Nat.reduceBEq, Int.reduceNeg, Int.reduceToNat, Int.reduceEq, Nat.reduceLeDiff, f1, awake_ok, ra, qa, pr, pa, hv2, sm2, hlf, hrs, leafH]
      refine wp_draw_E ?_
      simp -implicitDefEqProofs (disch := omega) only [go_sem, Nat.reduceAdd, Nat.reduceMul, Nat.reduceSub, Nat.reduceEqDiff, Nat.reduceLT, Nat.reduceLeDiff, reduceIte, reduceCtorEq, Int.reduceLE, Int.reduceLT, Int.reduceGE, Int.reduceGT, Int.reduceAdd, Int.reduceSub, Int.reduceMul, Int.reduceToNat, Int.reduceBEq, Int.reduceBNe, Nat.reduceBEq, Nat.reduceDiv, Nat.reduceMod, Nat.reduceBEq, Int.reduceNeg, Int.reduceToNat, Int.reduceEq, Nat.reduceLeDiff, f1, awake_ok, ra, qa, pr, pa, hv2, sm2, hlf, hrs, leafH]
    · have hpv : pathV P.reverse = .osl 1 P.length (P.reverse.map V.str) := by simp [pathV, hp]
      rw [hpv] at pr
      have hv2 := hv .ro
      have sm2 := sm .ro
      simp -implicitDefEqProofs (disch := omega) only [go_sem, Nat.reduceAdd, Nat.reduceMul, Nat.reduceSub, Nat.reduceEqDiff, Nat.reduceLT, Nat.reduceLeDiff, reduceIte, reduceCtorEq, Int.reduceLE, Int.reduceLT, Int.reduceGE, Int.reduceGT, Int.reduceAdd, Int.reduceSub, Int.reduceMul, Int.reduceToNat, Int.reduceBEq, Int.reduceBNe, Nat.reduceBEq, Nat.reduceDiv, Nat.reduceMod, Nat.reduceBEq, Int.reduceNeg, Int.reduceToNat, Int.reduceEq, Nat.reduceLeDiff, f1, awake_ok, ra, qa, pr, pa, hv2, sm2, hlf, hrs, leafH]
      refine wp_draw_E ?_
      simp -implicitDefEqProofs (disch := omega) only [go_sem, Nat.reduceAdd, Nat.reduceMul, Nat.reduceSub, Nat.reduceEqDiff, Nat.reduceLT, Nat.reduceLeDiff, reduceIte, reduceCtorEq, Int.reduceLE, Int.reduceLT, Int.reduceGE, Int.reduceGT, Int.reduceAdd, Int.reduceSub, Int.reduceMul, Int.reduceToNat, Int.reduceBEq, Int.reduceBNe, Nat.reduceBEq, Nat.reduceDiv, Nat.reduceMod, Nat.reduceBEq, Int.reduceNeg, Int.reduceToNat, Int.reduceEq, Nat.reduceLeDiff, f1, awake_ok, ra, qa, pr, pa, hv2, sm2, hlf, hrs, leafH]
end Go.Vm.Ytmjllpkkdlflpaa
