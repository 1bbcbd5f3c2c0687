/- Sparse trees: bits of paths, in the machine. -/
import Derived.Test.YthfcgllahllkkaaSmtB
set_option linter.unusedSectionVars false
set_option linter.unusedSimpArgs false
set_option linter.unusedVariables false
set_option maxHeartbeats 4000000
set_option maxRecDepth 10000
namespace Go.Vm
def pbit (s : List UInt8) (k : Nat) : Nat := (gt s (k / 8) >>> UInt8.ofNat (7 - k % 8)).toNat % 2
theorem pbit_lt (s : List UInt8) (k : Nat) : pbit s k < 2 := Nat.mod_lt _ (by decide)
theorem and1 (x : UInt8) : bits .and .i64 (x.toNat : Int) 1 = ((x.toNat % 2 : Nat) : Int) := by
  have : ∀ n : Fin 256, bits .and .i64 (n.val : Int) 1 = ((n.val % 2 : Nat) : Int) := by decide +kernel
  exact this ⟨x.toNat, x.toNat_lt⟩
def dv : Nat → UInt8 → UInt8
  | 0, x => x
  | n + 1, x => dv n x / 2
theorem dv_mod (n : Nat) (hn : n < 8) (x : UInt8) : (dv n x).toNat % 2 = (x >>> UInt8.ofNat n).toNat % 2 := by
  have : ∀ (n : Fin 8) (x : Fin 256), (dv n.val (UInt8.ofNat x.val)).toNat % 2 = (UInt8.ofNat x.val >>> UInt8.ofNat n.val).toNat % 2 := by decide +kernel
  have h := this ⟨n, hn⟩ ⟨x.toNat, x.toNat_lt⟩
  simpa using h
theorem wrap8 (x : UInt8) : IntKind.wrap .u8 ((x.toNat / 2 : Nat) : Int) = ((x / 2).toNat : Int) := by
  have : ∀ n : Fin 256, IntKind.wrap .u8 ((n.val / 2 : Nat) : Int) = ((UInt8.ofNat n.val / 2).toNat : Int) := by decide +kernel
  have h := this ⟨x.toNat, x.toNat_lt⟩
  simpa using h
end Go.Vm
namespace Go.Vm.Ythfcgllahllkkaa
open Go.Proofs
theorem bit_ok (s : List UInt8) (k : Nat) (hs : s.length = 32) (hk : k < 256) : Gf fns 29 [.str s, .int .i64 (k : Int)] = some (.int .i64 (pbit s k : Int), []) := by
  refine Gf_start rfl rfl ?_
  simp -implicitDefEqProofs (disch := omega) only [go_sem, Nat.reduceAdd, Nat.reduceMul, Nat.reduceSub, Nat.reduceEqDiff, Nat.reduceLT, Nat.reduceLeDiff, reduceIte, reduceCtorEq, Int.reduceLE, Int.reduceLT, Int.reduceGE, Int.reduceGT, Int.reduceAdd, Int.reduceSub, Int.reduceMul, Int.reduceToNat, Int.reduceBEq, Int.reduceBNe, Nat.reduceBEq, Nat.reduceDiv, Nat.reduceMod, Int.reduceNeg, Int.reduceEq, hs, and1]
  rfl
def bitI (s : List UInt8) (k : Nat) (j : Nat) (t : St) : Prop := j ≤ 7 ∧ k % 8 ≤ j ∧ t.t 1 = .int .i64 (k : Int) ∧ t.t 5 = .int .u8 ((dv (7 - j) (gt s (k / 8))).toNat : Int) ∧ t.t 6 = .int .i64 (j : Int)
theorem Bit_ok (s : List UInt8) (k : Nat) (hs : s.length = 32) (hk : k < 256) : Gf fns 17 [.str s, .int .i64 (k : Int)] = some (.int .i64 (pbit s k : Int), []) := by
  refine Gf_start rfl rfl ?_
  simp -implicitDefEqProofs (disch := omega) only [go_sem, Nat.reduceAdd, Nat.reduceMul, Nat.reduceSub, Nat.reduceEqDiff, Nat.reduceLT, Nat.reduceLeDiff, reduceIte, reduceCtorEq, Int.reduceLE, Int.reduceLT, Int.reduceGE, Int.reduceGT, Int.reduceAdd, Int.reduceSub, Int.reduceMul, Int.reduceToNat, Int.reduceBEq, Int.reduceBNe, Nat.reduceBEq, Nat.reduceDiv, Nat.reduceMod, Int.reduceNeg, Int.reduceEq, hs]
  refine wp_loopS (bitI s k) (fun j => j) 7 ⟨by omega, by omega, by simp -implicitDefEqProofs (disch := omega) only [go_sem, Nat.reduceAdd, Nat.reduceMul, Nat.reduceSub, Nat.reduceEqDiff, Nat.reduceLT, Nat.reduceLeDiff, reduceIte, reduceCtorEq, Int.reduceLE, Int.reduceLT, Int.reduceGE, Int.reduceGT, Int.reduceAdd, Int.reduceSub, Int.reduceMul, Int.reduceToNat, Int.reduceBEq, Int.reduceBNe, Nat.reduceBEq, Nat.reduceDiv, Nat.reduceMod, Int.reduceNeg, Int.reduceEq, go_sem], by simp -implicitDefEqProofs (disch := omega) only [go_sem, Nat.reduceAdd, Nat.reduceMul, Nat.reduceSub, Nat.reduceEqDiff, Nat.reduceLT, Nat.reduceLeDiff, reduceIte, reduceCtorEq, Int.reduceLE, Int.reduceLT, Int.reduceGE, Int.reduceGT, Int.reduceAdd, Int.reduceSub, Int.reduceMul, Int.reduceToNat, Int.reduceBEq, Int.reduceBNe, Nat.reduceBEq, Nat.reduceDiv, Nat.reduceMod, Int.reduceNeg, Int.reduceEq, dv], by simp -implicitDefEqProofs (disch := omega) only [go_sem, Nat.reduceAdd, Nat.reduceMul, Nat.reduceSub, Nat.reduceEqDiff, Nat.reduceLT, Nat.reduceLeDiff, reduceIte, reduceCtorEq, Int.reduceLE, Int.reduceLT, Int.reduceGE, Int.reduceGT, Int.reduceAdd, Int.reduceSub, Int.reduceMul, Int.reduceToNat, Int.reduceBEq, Int.reduceBNe, Nat.reduceBEq, Nat.reduceDiv, Nat.reduceMod, Int.reduceNeg, Int.reduceEq, go_sem]⟩ ?_
  rintro j ⟨t, σ⟩ ⟨h7, hj, h1, h5, h6⟩
  simp only at h1 h5 h6
  simp -implicitDefEqProofs (disch := omega) only [go_sem, Nat.reduceAdd, Nat.reduceMul, Nat.reduceSub, Nat.reduceEqDiff, Nat.reduceLT, Nat.reduceLeDiff, reduceIte, reduceCtorEq, Int.reduceLE, Int.reduceLT, Int.reduceGE, Int.reduceGT, Int.reduceAdd, Int.reduceSub, Int.reduceMul, Int.reduceToNat, Int.reduceBEq, Int.reduceBNe, Nat.reduceBEq, Nat.reduceDiv, Nat.reduceMod, Int.reduceNeg, Int.reduceEq, lp17_0, h1, h6]
  refine condC_dec (fun hc => ?_) (fun hc => ?_)
  · have hd : dv (7 - j) (gt s (k / 8)) / 2 = dv (7 - (j - 1)) (gt s (k / 8)) := by
      rw [show 7 - (j - 1) = (7 - j) + 1 by omega]
      rfl
    simp -implicitDefEqProofs (disch := omega) only [go_sem, Nat.reduceAdd, Nat.reduceMul, Nat.reduceSub, Nat.reduceEqDiff, Nat.reduceLT, Nat.reduceLeDiff, reduceIte, reduceCtorEq, Int.reduceLE, Int.reduceLT, Int.reduceGE, Int.reduceGT, Int.reduceAdd, Int.reduceSub, Int.reduceMul, Int.reduceToNat, Int.reduceBEq, Int.reduceBNe, Nat.reduceBEq, Nat.reduceDiv, Nat.reduceMod, Int.reduceNeg, Int.reduceEq, h1, h5, h6]
    refine ⟨j - 1, by omega, by omega, by omega, by simp -implicitDefEqProofs (disch := omega) only [go_sem, Nat.reduceAdd, Nat.reduceMul, Nat.reduceSub, Nat.reduceEqDiff, Nat.reduceLT, Nat.reduceLeDiff, reduceIte, reduceCtorEq, Int.reduceLE, Int.reduceLT, Int.reduceGE, Int.reduceGT, Int.reduceAdd, Int.reduceSub, Int.reduceMul, Int.reduceToNat, Int.reduceBEq, Int.reduceBNe, Nat.reduceBEq, Nat.reduceDiv, Nat.reduceMod, Int.reduceNeg, Int.reduceEq, h1], ?_, by simp -implicitDefEqProofs (disch := omega) only [go_sem, Nat.reduceAdd, Nat.reduceMul, Nat.reduceSub, Nat.reduceEqDiff, Nat.reduceLT, Nat.reduceLeDiff, reduceIte, reduceCtorEq, Int.reduceLE, Int.reduceLT, Int.reduceGE, Int.reduceGT, Int.reduceAdd, Int.reduceSub, Int.reduceMul, Int.reduceToNat, Int.reduceBEq, Int.reduceBNe, Nat.reduceBEq, Nat.reduceDiv, Nat.reduceMod, Int.reduceNeg, Int.reduceEq, go_sem]⟩
    simp -implicitDefEqProofs (disch := omega) only [go_sem, Nat.reduceAdd, Nat.reduceMul, Nat.reduceSub, Nat.reduceEqDiff, Nat.reduceLT, Nat.reduceLeDiff, reduceIte, reduceCtorEq, Int.reduceLE, Int.reduceLT, Int.reduceGE, Int.reduceGT, Int.reduceAdd, Int.reduceSub, Int.reduceMul, Int.reduceToNat, Int.reduceBEq, Int.reduceBNe, Nat.reduceBEq, Nat.reduceDiv, Nat.reduceMod, Int.reduceNeg, Int.reduceEq, go_sem]
    rw [← hd, wrap8]
  · obtain rfl : j = k % 8 := by omega
    simp -implicitDefEqProofs (disch := omega) only [go_sem, Nat.reduceAdd, Nat.reduceMul, Nat.reduceSub, Nat.reduceEqDiff, Nat.reduceLT, Nat.reduceLeDiff, reduceIte, reduceCtorEq, Int.reduceLE, Int.reduceLT, Int.reduceGE, Int.reduceGT, Int.reduceAdd, Int.reduceSub, Int.reduceMul, Int.reduceToNat, Int.reduceBEq, Int.reduceBNe, Nat.reduceBEq, Nat.reduceDiv, Nat.reduceMod, Int.reduceNeg, Int.reduceEq, h5]
    rw [dv_mod _ (by omega)]
    rfl
end Go.Vm.Ythfcgllahllkkaa
