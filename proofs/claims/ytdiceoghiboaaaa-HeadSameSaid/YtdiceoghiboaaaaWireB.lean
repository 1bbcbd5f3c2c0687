/- Counts, texts, checks: the reader's further calls, numbers' bytes, checks. -/
import Derived.Test.YtdiceoghiboaaaaWireA
set_option linter.unusedSectionVars false
set_option linter.unusedSimpArgs false
set_option linter.unusedVariables false
set_option maxHeartbeats 1000000
set_option maxRecDepth 10000
namespace Go.Vm.Ytdiceoghiboaaaa
open Go.Proofs
theorem count_lt (r : Rd) (most : Int) : ((r.count most).2 : Int) ≤ max most 0 := by
  unfold Rd.count
  simp only
  repeat' split
  · simp; omega
  · simp; omega
  · simp only; omega
theorem RHash_ok (r : Rd) (h : r.ok) : Gf fns 32 [.opt r.v] = some (.str (r.bytes 32).2, [.opt (r.bytes 32).1.v]) := by
  have hb := RBytes_ok r h 32
  generalize r.bytes 32 = p at *
  obtain ⟨⟨ps, pa, pe⟩, y⟩ := p
  obtain ⟨s, a, e⟩ := r
  simp -implicitDefEqProofs (disch := omega) only [go_sem, Nat.reduceAdd, Nat.reduceMul, Nat.reduceSub, Nat.reduceEqDiff, Nat.reduceLT, Nat.reduceLeDiff, reduceIte, reduceCtorEq, Int.reduceLE, Int.reduceLT, Int.reduceGE, Int.reduceGT, Int.reduceAdd, Int.reduceSub, Int.reduceMul, Int.reduceToNat, Int.reduceBEq, Int.reduceBNe, Nat.reduceBEq, Nat.reduceDiv, Nat.reduceMod, Nat.reduceBEq, Int.reduceNeg, Int.reduceToNat, Int.reduceEq, Nat.reduceLeDiff, Rd.v] at hb
  refine Gf_start rfl rfl ?_
  simp -implicitDefEqProofs (disch := omega) only [go_sem, Nat.reduceAdd, Nat.reduceMul, Nat.reduceSub, Nat.reduceEqDiff, Nat.reduceLT, Nat.reduceLeDiff, reduceIte, reduceCtorEq, Int.reduceLE, Int.reduceLT, Int.reduceGE, Int.reduceGT, Int.reduceAdd, Int.reduceSub, Int.reduceMul, Int.reduceToNat, Int.reduceBEq, Int.reduceBNe, Nat.reduceBEq, Nat.reduceDiv, Nat.reduceMod, Nat.reduceBEq, Int.reduceNeg, Int.reduceToNat, Int.reduceEq, Nat.reduceLeDiff, Rd.v, callr39, hb]
theorem RFail_ok (r : Rd) (e : Int) : Gf fns 35 [.opt r.v, .int .i64 e] = some (.tup [], [.opt (r.fail e).v]) := by
  obtain ⟨s, a, q⟩ := r
  refine Gf_start rfl rfl ?_
  by_cases hq : q = 0
  · simp -implicitDefEqProofs (disch := omega) only [go_sem, Nat.reduceAdd, Nat.reduceMul, Nat.reduceSub, Nat.reduceEqDiff, Nat.reduceLT, Nat.reduceLeDiff, reduceIte, reduceCtorEq, Int.reduceLE, Int.reduceLT, Int.reduceGE, Int.reduceGT, Int.reduceAdd, Int.reduceSub, Int.reduceMul, Int.reduceToNat, Int.reduceBEq, Int.reduceBNe, Nat.reduceBEq, Nat.reduceDiv, Nat.reduceMod, Nat.reduceBEq, Int.reduceNeg, Int.reduceToNat, Int.reduceEq, Nat.reduceLeDiff, Rd.v, Rd.fail, hq]
  · simp -implicitDefEqProofs (disch := omega) only [go_sem, Nat.reduceAdd, Nat.reduceMul, Nat.reduceSub, Nat.reduceEqDiff, Nat.reduceLT, Nat.reduceLeDiff, reduceIte, reduceCtorEq, Int.reduceLE, Int.reduceLT, Int.reduceGE, Int.reduceGT, Int.reduceAdd, Int.reduceSub, Int.reduceMul, Int.reduceToNat, Int.reduceBEq, Int.reduceBNe, Nat.reduceBEq, Nat.reduceDiv, Nat.reduceMod, Nat.reduceBEq, Int.reduceNeg, Int.reduceToNat, Int.reduceEq, Nat.reduceLeDiff, Rd.v, Rd.fail, hq]
theorem REnd_ok (r : Rd) (h : r.ok) : Gf fns 26 [.opt r.v] = some (.int .i64 r.end'.err, [.opt r.end'.v]) := by
  have hl := Left_ok r h
  have hf := RFail_ok r 5
  have he := Err_ok r
  have he5 := Err_ok (r.fail 5)
  unfold Rd.end'
  generalize r.fail 5 = f at *
  obtain ⟨fs, fa, fe⟩ := f
  obtain ⟨s, a, e⟩ := r
  simp -implicitDefEqProofs (disch := omega) only [go_sem, Nat.reduceAdd, Nat.reduceMul, Nat.reduceSub, Nat.reduceEqDiff, Nat.reduceLT, Nat.reduceLeDiff, reduceIte, reduceCtorEq, Int.reduceLE, Int.reduceLT, Int.reduceGE, Int.reduceGT, Int.reduceAdd, Int.reduceSub, Int.reduceMul, Int.reduceToNat, Int.reduceBEq, Int.reduceBNe, Nat.reduceBEq, Nat.reduceDiv, Nat.reduceMod, Nat.reduceBEq, Int.reduceNeg, Int.reduceToNat, Int.reduceEq, Nat.reduceLeDiff, Rd.v] at hl hf he he5
  refine Gf_start rfl rfl ?_
  by_cases hc : a < s.length
  · simp -implicitDefEqProofs (disch := omega) only [go_sem, Nat.reduceAdd, Nat.reduceMul, Nat.reduceSub, Nat.reduceEqDiff, Nat.reduceLT, Nat.reduceLeDiff, reduceIte, reduceCtorEq, Int.reduceLE, Int.reduceLT, Int.reduceGE, Int.reduceGT, Int.reduceAdd, Int.reduceSub, Int.reduceMul, Int.reduceToNat, Int.reduceBEq, Int.reduceBNe, Nat.reduceBEq, Nat.reduceDiv, Nat.reduceMod, Nat.reduceBEq, Int.reduceNeg, Int.reduceToNat, Int.reduceEq, Nat.reduceLeDiff, Rd.v, hl, callr35, hf, he5, hc]
  · simp -implicitDefEqProofs (disch := omega) only [go_sem, Nat.reduceAdd, Nat.reduceMul, Nat.reduceSub, Nat.reduceEqDiff, Nat.reduceLT, Nat.reduceLeDiff, reduceIte, reduceCtorEq, Int.reduceLE, Int.reduceLT, Int.reduceGE, Int.reduceGT, Int.reduceAdd, Int.reduceSub, Int.reduceMul, Int.reduceToNat, Int.reduceBEq, Int.reduceBNe, Nat.reduceBEq, Nat.reduceDiv, Nat.reduceMod, Nat.reduceBEq, Int.reduceNeg, Int.reduceToNat, Int.reduceEq, Nat.reduceLeDiff, Rd.v, hl, he, hc]
/-- A reader that is none. -/
theorem Err_nil : Gf fns 34 [.nilp] = some (.int .i64 1, []) := by
  refine Gf_start rfl rfl ?_
  simp -implicitDefEqProofs (disch := omega) only [go_sem, Nat.reduceAdd, Nat.reduceMul, Nat.reduceSub, Nat.reduceEqDiff, Nat.reduceLT, Nat.reduceLeDiff, reduceIte, reduceCtorEq, Int.reduceLE, Int.reduceLT, Int.reduceGE, Int.reduceGT, Int.reduceAdd, Int.reduceSub, Int.reduceMul, Int.reduceToNat, Int.reduceBEq, Int.reduceBNe, Nat.reduceBEq, Nat.reduceDiv, Nat.reduceMod, Nat.reduceBEq, Int.reduceNeg, Int.reduceToNat, Int.reduceEq, Nat.reduceLeDiff, go_sem]
theorem Left_nil : Gf fns 36 [.nilp] = some (.int .i64 0, []) := by
  refine Gf_start rfl rfl ?_
  simp -implicitDefEqProofs (disch := omega) only [go_sem, Nat.reduceAdd, Nat.reduceMul, Nat.reduceSub, Nat.reduceEqDiff, Nat.reduceLT, Nat.reduceLeDiff, reduceIte, reduceCtorEq, Int.reduceLE, Int.reduceLT, Int.reduceGE, Int.reduceGT, Int.reduceAdd, Int.reduceSub, Int.reduceMul, Int.reduceToNat, Int.reduceBEq, Int.reduceBNe, Nat.reduceBEq, Nat.reduceDiv, Nat.reduceMod, Nat.reduceBEq, Int.reduceNeg, Int.reduceToNat, Int.reduceEq, Nat.reduceLeDiff, go_sem]
theorem Bytes_nil (n : Int) : Gf fns 39 [.nilp, .int .i64 n] = some (.str [], [.nilp]) := by
  refine Gf_start rfl rfl ?_
  simp -implicitDefEqProofs (disch := omega) only [go_sem, Nat.reduceAdd, Nat.reduceMul, Nat.reduceSub, Nat.reduceEqDiff, Nat.reduceLT, Nat.reduceLeDiff, reduceIte, reduceCtorEq, Int.reduceLE, Int.reduceLT, Int.reduceGE, Int.reduceGT, Int.reduceAdd, Int.reduceSub, Int.reduceMul, Int.reduceToNat, Int.reduceBEq, Int.reduceBNe, Nat.reduceBEq, Nat.reduceDiv, Nat.reduceMod, Nat.reduceBEq, Int.reduceNeg, Int.reduceToNat, Int.reduceEq, Nat.reduceLeDiff, Err_nil]
def nnilS (i : Nat) (s : St) : Prop := s.t 0 = .nilp ∧ s.t 22 = .int .i64 0 ∧ s.t 23 = .int .i64 0 ∧ s.t 5 = .int .u64 0
theorem Number_nil (n : Int) : Gf fns 31 [.nilp, .int .i64 n] = some (.int .u64 0, [.nilp]) := by
  refine Gf_start rfl rfl ?_
  simp -implicitDefEqProofs (disch := omega) only [go_sem, Nat.reduceAdd, Nat.reduceMul, Nat.reduceSub, Nat.reduceEqDiff, Nat.reduceLT, Nat.reduceLeDiff, reduceIte, reduceCtorEq, Int.reduceLE, Int.reduceLT, Int.reduceGE, Int.reduceGT, Int.reduceAdd, Int.reduceSub, Int.reduceMul, Int.reduceToNat, Int.reduceBEq, Int.reduceBNe, Nat.reduceBEq, Nat.reduceDiv, Nat.reduceMod, Nat.reduceBEq, Int.reduceNeg, Int.reduceToNat, Int.reduceEq, Nat.reduceLeDiff, Err_nil, Bytes_nil, callr39]
  refine wp_loopS nnilS (fun _ => 0) 0 ⟨by simp -implicitDefEqProofs (disch := omega) only [go_sem, Nat.reduceAdd, Nat.reduceMul, Nat.reduceSub, Nat.reduceEqDiff, Nat.reduceLT, Nat.reduceLeDiff, reduceIte, reduceCtorEq, Int.reduceLE, Int.reduceLT, Int.reduceGE, Int.reduceGT, Int.reduceAdd, Int.reduceSub, Int.reduceMul, Int.reduceToNat, Int.reduceBEq, Int.reduceBNe, Nat.reduceBEq, Nat.reduceDiv, Nat.reduceMod, Nat.reduceBEq, Int.reduceNeg, Int.reduceToNat, Int.reduceEq, Nat.reduceLeDiff, go_sem], by simp -implicitDefEqProofs (disch := omega) only [go_sem, Nat.reduceAdd, Nat.reduceMul, Nat.reduceSub, Nat.reduceEqDiff, Nat.reduceLT, Nat.reduceLeDiff, reduceIte, reduceCtorEq, Int.reduceLE, Int.reduceLT, Int.reduceGE, Int.reduceGT, Int.reduceAdd, Int.reduceSub, Int.reduceMul, Int.reduceToNat, Int.reduceBEq, Int.reduceBNe, Nat.reduceBEq, Nat.reduceDiv, Nat.reduceMod, Nat.reduceBEq, Int.reduceNeg, Int.reduceToNat, Int.reduceEq, Nat.reduceLeDiff, go_sem], by simp -implicitDefEqProofs (disch := omega) only [go_sem, Nat.reduceAdd, Nat.reduceMul, Nat.reduceSub, Nat.reduceEqDiff, Nat.reduceLT, Nat.reduceLeDiff, reduceIte, reduceCtorEq, Int.reduceLE, Int.reduceLT, Int.reduceGE, Int.reduceGT, Int.reduceAdd, Int.reduceSub, Int.reduceMul, Int.reduceToNat, Int.reduceBEq, Int.reduceBNe, Nat.reduceBEq, Nat.reduceDiv, Nat.reduceMod, Nat.reduceBEq, Int.reduceNeg, Int.reduceToNat, Int.reduceEq, Nat.reduceLeDiff, go_sem], by simp -implicitDefEqProofs (disch := omega) only [go_sem, Nat.reduceAdd, Nat.reduceMul, Nat.reduceSub, Nat.reduceEqDiff, Nat.reduceLT, Nat.reduceLeDiff, reduceIte, reduceCtorEq, Int.reduceLE, Int.reduceLT, Int.reduceGE, Int.reduceGT, Int.reduceAdd, Int.reduceSub, Int.reduceMul, Int.reduceToNat, Int.reduceBEq, Int.reduceBNe, Nat.reduceBEq, Nat.reduceDiv, Nat.reduceMod, Nat.reduceBEq, Int.reduceNeg, Int.reduceToNat, Int.reduceEq, Nat.reduceLeDiff, go_sem]⟩ ?_
  rintro i ⟨t, σ⟩ ⟨h0, h22, h23, h5⟩
  simp only at h0 h22 h23 h5
  simp -implicitDefEqProofs (disch := omega) only [go_sem, Nat.reduceAdd, Nat.reduceMul, Nat.reduceSub, Nat.reduceEqDiff, Nat.reduceLT, Nat.reduceLeDiff, reduceIte, reduceCtorEq, Int.reduceLE, Int.reduceLT, Int.reduceGE, Int.reduceGT, Int.reduceAdd, Int.reduceSub, Int.reduceMul, Int.reduceToNat, Int.reduceBEq, Int.reduceBNe, Nat.reduceBEq, Nat.reduceDiv, Nat.reduceMod, Nat.reduceBEq, Int.reduceNeg, Int.reduceToNat, Int.reduceEq, Nat.reduceLeDiff, lp31_0, h0, h22, h23, h5]
theorem Hash_nil : Gf fns 32 [.nilp] = some (.str [], [.nilp]) := by
  refine Gf_start rfl rfl ?_
  simp -implicitDefEqProofs (disch := omega) only [go_sem, Nat.reduceAdd, Nat.reduceMul, Nat.reduceSub, Nat.reduceEqDiff, Nat.reduceLT, Nat.reduceLeDiff, reduceIte, reduceCtorEq, Int.reduceLE, Int.reduceLT, Int.reduceGE, Int.reduceGT, Int.reduceAdd, Int.reduceSub, Int.reduceMul, Int.reduceToNat, Int.reduceBEq, Int.reduceBNe, Nat.reduceBEq, Nat.reduceDiv, Nat.reduceMod, Nat.reduceBEq, Int.reduceNeg, Int.reduceToNat, Int.reduceEq, Nat.reduceLeDiff, Bytes_nil, callr39]
theorem Fail_nil (n : Int) : Gf fns 35 [.nilp, .int .i64 n] = some (.tup [], [.nilp]) := by
  refine Gf_start rfl rfl ?_
  simp -implicitDefEqProofs (disch := omega) only [go_sem, Nat.reduceAdd, Nat.reduceMul, Nat.reduceSub, Nat.reduceEqDiff, Nat.reduceLT, Nat.reduceLeDiff, reduceIte, reduceCtorEq, Int.reduceLE, Int.reduceLT, Int.reduceGE, Int.reduceGT, Int.reduceAdd, Int.reduceSub, Int.reduceMul, Int.reduceToNat, Int.reduceBEq, Int.reduceBNe, Nat.reduceBEq, Nat.reduceDiv, Nat.reduceMod, Nat.reduceBEq, Int.reduceNeg, Int.reduceToNat, Int.reduceEq, Nat.reduceLeDiff, go_sem]
theorem End_nil : Gf fns 26 [.nilp] = some (.int .i64 1, [.nilp]) := by
  refine Gf_start rfl rfl ?_
  simp -implicitDefEqProofs (disch := omega) only [go_sem, Nat.reduceAdd, Nat.reduceMul, Nat.reduceSub, Nat.reduceEqDiff, Nat.reduceLT, Nat.reduceLeDiff, reduceIte, reduceCtorEq, Int.reduceLE, Int.reduceLT, Int.reduceGE, Int.reduceGT, Int.reduceAdd, Int.reduceSub, Int.reduceMul, Int.reduceToNat, Int.reduceBEq, Int.reduceBNe, Nat.reduceBEq, Nat.reduceDiv, Nat.reduceMod, Nat.reduceBEq, Int.reduceNeg, Int.reduceToNat, Int.reduceEq, Nat.reduceLeDiff, Left_nil, Err_nil]
end Go.Vm.Ytdiceoghiboaaaa
