/- SHA-256: digests of texts, of parts for a purpose; sameness and collisions. -/
import Derived.Test.YteeplbabnleanaaShaD
set_option linter.unusedSectionVars false
set_option linter.unusedSimpArgs false
set_option linter.unusedVariables false
set_option maxHeartbeats 4000000
set_option maxRecDepth 10000
namespace Go.Vm
/-- The digest of bytes. -/
def sha (s : List UInt8) : List UInt8 := finish (absorb h0 s).1 (absorb h0 s).2 (0 + UInt64.ofNat s.length)
theorem finish_len (h : H8) (b : List UInt8) (n : UInt64) : (finish h b n).length = 32 := outP_len _ 8
theorem sha_len (s : List UInt8) : (sha s).length = 32 := finish_len _ _ _
/-- A length in four bytes. -/
def four (n : Nat) : List UInt8 := [byteI ((n / 2 ^ 24 : Nat) : Int), byteI ((n / 2 ^ 16 : Nat) : Int), byteI ((n / 2 ^ 8 : Nat) : Int), byteI (n : Int)]
theorem sha_abc : sha [97, 98, 99] = [186, 120, 22, 191, 143, 1, 207, 234, 65, 65, 64, 222, 93, 174, 34, 35, 176, 3, 97, 163, 150, 23, 122, 156, 180, 16, 255, 97, 242, 0, 21, 173] := by
  unfold sha finish
  rw [absorb_lt h0 [97, 98, 99] (by decide)]
  have e : pad ([97, 98, 99] ++ [128]) ++ lenP (0 + UInt64.ofNat [(97 : UInt8), 98, 99].length) 8 = [97, 98, 99, 128, 0, 0, 0, 0, 0, 0, 0, 0, 0, 0, 0, 0, 0, 0, 0, 0, 0, 0, 0, 0, 0, 0, 0, 0, 0, 0, 0, 0, 0, 0, 0, 0, 0, 0, 0, 0, 0, 0, 0, 0, 0, 0, 0, 0, 0, 0, 0, 0, 0, 0, 0, 0, 0, 0, 0, 0, 0, 0, 0, 24] := by decide +kernel
  rw [e, absorb_ge _ _ (by decide), absorb_lt _ _ (by decide)]
  decide +kernel
end Go.Vm
namespace Go.Vm.Yteeplbabnleanaa
open Go.Proofs
theorem sha_ok (s : List UInt8) (hs : s.length ≤ 100000000000000) : Gf fns 21 [.str s] = some (.str (sha s), []) := by
  have hr := absorb_rest s.length h0 s (Nat.le_refl _)
  have hw := Write_ok h0 false [] 0 s (fun _ => rfl) (by simp; omega)
  have hd := DSum_ok (absorb h0 s).1 (decide (s ≠ [])) (absorb h0 s).2 (0 + UInt64.ofNat s.length) (fun h => by
    have : s = [] := by simpa using h
    subst this
    rw [absorb_lt h0 [] (by simp)]) (by omega)
  rw [List.nil_append, Bool.false_or] at hw
  refine Gf_start rfl rfl ?_
  have e : ((0 : UInt64).toNat : Int) = 0 := rfl
  by_cases h : s = []
  · have hd2 : decide (s ≠ []) = false := by simp [h]
    rw [hd2] at hw hd
    simp -implicitDefEqProofs (disch := omega) only [go_sem, Nat.reduceAdd, Nat.reduceMul, Nat.reduceSub, Nat.reduceEqDiff, Nat.reduceLT, Nat.reduceLeDiff, reduceIte, reduceCtorEq, Int.reduceLE, Int.reduceLT, Int.reduceGE, Int.reduceGT, Int.reduceAdd, Int.reduceSub, Int.reduceMul, Int.reduceToNat, Int.reduceBEq, Int.reduceBNe, Nat.reduceBEq, Nat.reduceDiv, Nat.reduceMod, Int.reduceNeg, Int.reduceEq, digV, restV, H8.v, e] at hw
    simp -implicitDefEqProofs (disch := omega) only [go_sem, Nat.reduceAdd, Nat.reduceMul, Nat.reduceSub, Nat.reduceEqDiff, Nat.reduceLT, Nat.reduceLeDiff, reduceIte, reduceCtorEq, Int.reduceLE, Int.reduceLT, Int.reduceGE, Int.reduceGT, Int.reduceAdd, Int.reduceSub, Int.reduceMul, Int.reduceToNat, Int.reduceBEq, Int.reduceBNe, Nat.reduceBEq, Nat.reduceDiv, Nat.reduceMod, Int.reduceNeg, Int.reduceEq, H8.v, roV_] at hd
    simp -implicitDefEqProofs (disch := omega) only [go_sem, Nat.reduceAdd, Nat.reduceMul, Nat.reduceSub, Nat.reduceEqDiff, Nat.reduceLT, Nat.reduceLeDiff, reduceIte, reduceCtorEq, Int.reduceLE, Int.reduceLT, Int.reduceGE, Int.reduceGT, Int.reduceAdd, Int.reduceSub, Int.reduceMul, Int.reduceToNat, Int.reduceBEq, Int.reduceBNe, Nat.reduceBEq, Nat.reduceDiv, Nat.reduceMod, Int.reduceNeg, Int.reduceEq, callr24, callr25, New_ok, digV, restV, H8.v, e, hw, hd, sha]
  · have hd2 : decide (s ≠ []) = true := by simp [h]
    rw [hd2] at hw hd
    simp -implicitDefEqProofs (disch := omega) only [go_sem, Nat.reduceAdd, Nat.reduceMul, Nat.reduceSub, Nat.reduceEqDiff, Nat.reduceLT, Nat.reduceLeDiff, reduceIte, reduceCtorEq, Int.reduceLE, Int.reduceLT, Int.reduceGE, Int.reduceGT, Int.reduceAdd, Int.reduceSub, Int.reduceMul, Int.reduceToNat, Int.reduceBEq, Int.reduceBNe, Nat.reduceBEq, Nat.reduceDiv, Nat.reduceMod, Int.reduceNeg, Int.reduceEq, digV, restV, H8.v, e] at hw
    simp -implicitDefEqProofs (disch := omega) only [go_sem, Nat.reduceAdd, Nat.reduceMul, Nat.reduceSub, Nat.reduceEqDiff, Nat.reduceLT, Nat.reduceLeDiff, reduceIte, reduceCtorEq, Int.reduceLE, Int.reduceLT, Int.reduceGE, Int.reduceGT, Int.reduceAdd, Int.reduceSub, Int.reduceMul, Int.reduceToNat, Int.reduceBEq, Int.reduceBNe, Nat.reduceBEq, Nat.reduceDiv, Nat.reduceMod, Int.reduceNeg, Int.reduceEq, H8.v, roV_] at hd
    simp -implicitDefEqProofs (disch := omega) only [go_sem, Nat.reduceAdd, Nat.reduceMul, Nat.reduceSub, Nat.reduceEqDiff, Nat.reduceLT, Nat.reduceLeDiff, reduceIte, reduceCtorEq, Int.reduceLE, Int.reduceLT, Int.reduceGE, Int.reduceGT, Int.reduceAdd, Int.reduceSub, Int.reduceMul, Int.reduceToNat, Int.reduceBEq, Int.reduceBNe, Nat.reduceBEq, Nat.reduceDiv, Nat.reduceMod, Int.reduceNeg, Int.reduceEq, callr24, callr25, New_ok, digV, restV, H8.v, e, hw, hd, sha]
end Go.Vm.Yteeplbabnleanaa
