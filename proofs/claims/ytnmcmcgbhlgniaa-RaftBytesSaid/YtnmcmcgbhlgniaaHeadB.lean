/- Headers: bytes, sameness, copies. -/
import Derived.Test.YtnmcmcgbhlgniaaHeadA
set_option linter.unusedSectionVars false
set_option linter.unusedSimpArgs false
set_option linter.unusedVariables false
set_option maxHeartbeats 1000000
set_option maxRecDepth 10000
namespace Go.Vm.Ytnmcmcgbhlgniaa
open Go.Proofs
theorem gt_mem8 {l : List Int} {i : Nat} (h : i < l.length) : gt l i ∈ l := by rw [gt_eq h]; exact List.getElem_mem h
theorem iI_ro (d : Nat) (m : List Int) : (m.map iI).any (hasRo (d + 1)) = false := by
  rw [List.any_eq_false]
  intro x hx
  obtain ⟨y, _, rfl⟩ := List.mem_map.1 hx
  simp [iI, hasRo]
theorem byte_u64 {x : Int} (h : 0 ≤ x ∧ x < 256) : x = ((UInt64.ofNat x.toNat).toNat : Int) := by
  rw [UInt64.toNat_ofNat_of_lt' (show x.toNat < 18446744073709551616 by omega)]
  omega
theorem byte_num {x : Int} (h : 0 ≤ x ∧ x < 256) : numB (UInt64.ofNat x.toNat) 1 = [byte1 x] := by
  rw [numB1]
  congr 1
  apply UInt8.toNat_inj.1
  unfold byte1
  rw [UInt64.toNat_toUInt8, UInt64.toNat_ofNat_of_lt' (show x.toNat < 18446744073709551616 by omega), UInt8.toNat_ofNat_of_lt' (show x.toNat < 256 by omega)]
  omega
theorem RNum1_ok {x : Int} (h : 0 ≤ x ∧ x < 256) : Gf fns 20 [.int .u64 x, .int .i64 1] = some (.str [byte1 x], []) := by
  have h1 := RefNumberAny_ok (UInt64.ofNat x.toNat) 1
  rw [← byte_u64 h, show bytes8 1 = 1 from rfl, byte_num h] at h1
  exact h1
def mbS (k : SK) (m : List Int) (i : Nat) (s : St) : Prop := i ≤ m.length ∧ s.t 0 = .sl k m.length (m.map iI) ∧ s.t 3 = .str (UInt8.ofNat m.length :: (m.take i).map byte1) ∧ s.t 4 = .int .i64 (i : Int)
theorem MembersBytes_ok (k : SK) (m : List Int) (hm : ∀ x ∈ m, 0 ≤ x ∧ x < 256) (hl : m.length ≤ 100) : Gf fns 27 [.sl k m.length (m.map iI)] = some (.str (membB m), []) := by
  refine Gf_start rfl rfl ?_
  have h0 := RNum1_ok (x := (m.length : Int)) ⟨by omega, by omega⟩
  have hb : byte1 (m.length : Int) = UInt8.ofNat m.length := by unfold byte1; rw [Int.toNat_natCast]
  rw [hb] at h0
  simp -implicitDefEqProofs (disch := omega) only [go_sem, Nat.reduceAdd, Nat.reduceMul, Nat.reduceSub, Nat.reduceEqDiff, Nat.reduceLT, Nat.reduceLeDiff, reduceIte, reduceCtorEq, Int.reduceLE, Int.reduceLT, Int.reduceGE, Int.reduceGT, Int.reduceAdd, Int.reduceSub, Int.reduceMul, Int.reduceToNat, Int.reduceBEq, Int.reduceBNe, Nat.reduceBEq, Nat.reduceDiv, Nat.reduceMod, Int.reduceNeg, Int.reduceEq, h0]
  refine wp_loopS (mbS k m) (fun i => m.length - i) 0 ⟨by omega, by simp -implicitDefEqProofs (disch := omega) only [go_sem, Nat.reduceAdd, Nat.reduceMul, Nat.reduceSub, Nat.reduceEqDiff, Nat.reduceLT, Nat.reduceLeDiff, reduceIte, reduceCtorEq, Int.reduceLE, Int.reduceLT, Int.reduceGE, Int.reduceGT, Int.reduceAdd, Int.reduceSub, Int.reduceMul, Int.reduceToNat, Int.reduceBEq, Int.reduceBNe, Nat.reduceBEq, Nat.reduceDiv, Nat.reduceMod, Int.reduceNeg, Int.reduceEq, go_sem], by simp -implicitDefEqProofs (disch := omega) only [go_sem, Nat.reduceAdd, Nat.reduceMul, Nat.reduceSub, Nat.reduceEqDiff, Nat.reduceLT, Nat.reduceLeDiff, reduceIte, reduceCtorEq, Int.reduceLE, Int.reduceLT, Int.reduceGE, Int.reduceGT, Int.reduceAdd, Int.reduceSub, Int.reduceMul, Int.reduceToNat, Int.reduceBEq, Int.reduceBNe, Nat.reduceBEq, Nat.reduceDiv, Nat.reduceMod, Int.reduceNeg, Int.reduceEq, go_sem], by simp -implicitDefEqProofs (disch := omega) only [go_sem, Nat.reduceAdd, Nat.reduceMul, Nat.reduceSub, Nat.reduceEqDiff, Nat.reduceLT, Nat.reduceLeDiff, reduceIte, reduceCtorEq, Int.reduceLE, Int.reduceLT, Int.reduceGE, Int.reduceGT, Int.reduceAdd, Int.reduceSub, Int.reduceMul, Int.reduceToNat, Int.reduceBEq, Int.reduceBNe, Nat.reduceBEq, Nat.reduceDiv, Nat.reduceMod, Int.reduceNeg, Int.reduceEq, go_sem]⟩ ?_
  rintro i ⟨t, σ⟩ ⟨hi, g0, g3, g4⟩
  simp only at g0 g3 g4
  simp -implicitDefEqProofs (disch := omega) only [go_sem, Nat.reduceAdd, Nat.reduceMul, Nat.reduceSub, Nat.reduceEqDiff, Nat.reduceLT, Nat.reduceLeDiff, reduceIte, reduceCtorEq, Int.reduceLE, Int.reduceLT, Int.reduceGE, Int.reduceGT, Int.reduceAdd, Int.reduceSub, Int.reduceMul, Int.reduceToNat, Int.reduceBEq, Int.reduceBNe, Nat.reduceBEq, Nat.reduceDiv, Nat.reduceMod, Int.reduceNeg, Int.reduceEq, lp27_0, g0, g4]
  refine condC_dec (fun hc => ?_) (fun hc => ?_)
  · have hx := hm _ (gt_mem8 hc)
    have h1 := RNum1_ok hx
    have ha : 0 ≤ gt m i := hx.1
    have hb : gt m i < 18446744073709551616 := by omega
    have hlen : ((m.take i).map byte1).length ≤ 100 := by simp; omega
    simp -implicitDefEqProofs (disch := omega) only [go_sem, Nat.reduceAdd, Nat.reduceMul, Nat.reduceSub, Nat.reduceEqDiff, Nat.reduceLT, Nat.reduceLeDiff, reduceIte, reduceCtorEq, Int.reduceLE, Int.reduceLT, Int.reduceGE, Int.reduceGT, Int.reduceAdd, Int.reduceSub, Int.reduceMul, Int.reduceToNat, Int.reduceBEq, Int.reduceBNe, Nat.reduceBEq, Nat.reduceDiv, Nat.reduceMod, Int.reduceNeg, Int.reduceEq, g0, g3, g4, iI, h1]
    refine ⟨i + 1, by omega, by omega, by simp -implicitDefEqProofs (disch := omega) only [go_sem, Nat.reduceAdd, Nat.reduceMul, Nat.reduceSub, Nat.reduceEqDiff, Nat.reduceLT, Nat.reduceLeDiff, reduceIte, reduceCtorEq, Int.reduceLE, Int.reduceLT, Int.reduceGE, Int.reduceGT, Int.reduceAdd, Int.reduceSub, Int.reduceMul, Int.reduceToNat, Int.reduceBEq, Int.reduceBNe, Nat.reduceBEq, Nat.reduceDiv, Nat.reduceMod, Int.reduceNeg, Int.reduceEq, g0, iI], ?_, by simp -implicitDefEqProofs (disch := omega) only [go_sem, Nat.reduceAdd, Nat.reduceMul, Nat.reduceSub, Nat.reduceEqDiff, Nat.reduceLT, Nat.reduceLeDiff, reduceIte, reduceCtorEq, Int.reduceLE, Int.reduceLT, Int.reduceGE, Int.reduceGT, Int.reduceAdd, Int.reduceSub, Int.reduceMul, Int.reduceToNat, Int.reduceBEq, Int.reduceBNe, Nat.reduceBEq, Nat.reduceDiv, Nat.reduceMod, Int.reduceNeg, Int.reduceEq, go_sem]⟩
    have e : UInt8.ofNat m.length :: (m.take (i + 1)).map byte1 = UInt8.ofNat m.length :: ((m.take i).map byte1) ++ [byte1 (gt m i)] := by rw [take_gt hc]; simp
    rw [e]
    simp -implicitDefEqProofs (disch := omega) only [go_sem, Nat.reduceAdd, Nat.reduceMul, Nat.reduceSub, Nat.reduceEqDiff, Nat.reduceLT, Nat.reduceLeDiff, reduceIte, reduceCtorEq, Int.reduceLE, Int.reduceLT, Int.reduceGE, Int.reduceGT, Int.reduceAdd, Int.reduceSub, Int.reduceMul, Int.reduceToNat, Int.reduceBEq, Int.reduceBNe, Nat.reduceBEq, Nat.reduceDiv, Nat.reduceMod, Int.reduceNeg, Int.reduceEq, go_sem]
  · obtain rfl : i = m.length := by omega
    rw [take_all (Nat.le_refl _)] at g3
    simp -implicitDefEqProofs (disch := omega) only [go_sem, Nat.reduceAdd, Nat.reduceMul, Nat.reduceSub, Nat.reduceEqDiff, Nat.reduceLT, Nat.reduceLeDiff, reduceIte, reduceCtorEq, Int.reduceLE, Int.reduceLT, Int.reduceGE, Int.reduceGT, Int.reduceAdd, Int.reduceSub, Int.reduceMul, Int.reduceToNat, Int.reduceBEq, Int.reduceBNe, Nat.reduceBEq, Nat.reduceDiv, Nat.reduceMod, Int.reduceNeg, Int.reduceEq, g3, membB]
theorem hash32_of {s : List UInt8} (h : s.length = 32) : hash32 s = s := by rw [hash32_long s (by omega), take_all (by omega)]
theorem fine_of {h : Hd} (hf : h.fine = true) : ¬ h.n = 0 ∧ h.p.length = 32 ∧ h.t.length = 32 ∧ h.s.length = 32 ∧ membersB h.m = true := by
  unfold Hd.fine at hf
  simpa only [Bool.and_eq_true, decide_eq_true_eq] using hf
end Go.Vm.Ytnmcmcgbhlgniaa
