/- Headers: bytes, sameness, copies. -/
import Derived.Test.YtdiceoghiboaaaaHeadA
set_option linter.unusedSectionVars false
set_option linter.unusedSimpArgs false
set_option linter.unusedVariables false
set_option maxHeartbeats 1000000
set_option maxRecDepth 10000
namespace Go.Vm.Ytdiceoghiboaaaa
open Go.Proofs
theorem gt_mem8 {l : List Int} {i : Nat} (h : i < l.length) : gt l i ∈ l := by rw [gt_eq h]; exact List.getElem_mem h
theorem iI_ro (d : Nat) (m : List Int) : (m.map iI).any (hasRo (d + 1)) = false := by
  rw [List.any_eq_false]
  intro x hx
  obtain ⟨y, _, rfl⟩ := List.mem_map.1 hx
  simp [iI, hasRo]
theorem byte_u64 {x : Int} (h : 0 ≤ x ∧ x < 256) : x = ((UInt64.ofNat x.toNat).toNat : Int) := by
  rw [UInt64.toNat_ofNat_of_lt' (show x.toNat < 18446744073709551616 by omega)]
  omega
theorem byte_num {x : Int} (h : 0 ≤ x ∧ x < 256) : numB (UInt64.ofNat x.toNat) 1 = [byte1 x] := by
  rw [numB1]
  congr 1
  apply UInt8.toNat_inj.1
  unfold byte1
  rw [UInt64.toNat_toUInt8, UInt64.toNat_ofNat_of_lt' (show x.toNat < 18446744073709551616 by omega), UInt8.toNat_ofNat_of_lt' (show x.toNat < 256 by omega)]
  omega
theorem RNum1_ok {x : Int} (h : 0 ≤ x ∧ x < 256) : Gf fns 16 [.int .u64 x, .int .i64 1] = some (.str [byte1 x], []) := by
  have h1 := RefNumberAny_ok (UInt64.ofNat x.toNat) 1
  rw [← byte_u64 h, show bytes8 1 = 1 from rfl, byte_num h] at h1
  exact h1
def mbS (k : SK) (m : List Int) (i : Nat) (s : St) : Prop := i ≤ m.length ∧ s.t 0 = .sl k m.length (m.map iI) ∧ s.t 3 = .str (UInt8.ofNat m.length :: (m.take i).map byte1) ∧ s.t 4 = .int .i64 (i : Int)
theorem MembersBytes_ok (k : SK) (m : List Int) (hm : ∀ x ∈ m, 0 ≤ x ∧ x < 256) (hl : m.length ≤ 100) : Gf fns 18 [.sl k m.length (m.map iI)] = some (.str (membB m), []) := by
  refine Gf_start rfl rfl ?_
  have h0 := RNum1_ok (x := (m.length : Int)) ⟨by omega, by omega⟩
  have hb : byte1 (m.length : Int) = UInt8.ofNat m.length := by unfold byte1; rw [Int.toNat_natCast]
  rw [hb] at h0
  simp -implicitDefEqProofs (disch := omega) only [go_sem, Nat.reduceAdd, Nat.reduceMul, Nat.reduceSub, Nat.reduceEqDiff, Nat.reduceLT, Nat.reduceLeDiff, reduceIte, reduceCtorEq, Int.reduceLE, Int.reduceLT, Int.reduceGE, Int.reduceGT, Int.reduceAdd, Int.reduceSub, Int.reduceMul, Int.reduceToNat, Int.reduceBEq, Int.reduceBNe, Nat.reduceBEq, Nat.reduceDiv, Nat.reduceMod, Nat.reduceBEq, Int.reduceNeg, Int.reduceToNat, Int.reduceEq, Nat.reduceLeDiff, h0]
  refine wp_loopS (mbS k m) (fun i => m.length - i) 0 ⟨by omega, by simp -implicitDefEqProofs (disch := omega) only [go_sem, Nat.reduceAdd, Nat.reduceMul, Nat.reduceSub, Nat.reduceEqDiff, Nat.reduceLT, Nat.reduceLeDiff, reduceIte, reduceCtorEq, Int.reduceLE, Int.reduceLT, Int.reduceGE, Int.reduceGT, Int.reduceAdd, Int.reduceSub, Int.reduceMul, Int.reduceToNat, Int.reduceBEq, Int.reduceBNe, Nat.reduceBEq, Nat.reduceDiv, Nat.reduceMod, Nat.reduceBEq, Int.reduceNeg, Int.reduceToNat, Int.reduceEq, Nat.reduceLeDiff, go_sem], by simp -implicitDefEqProofs (disch := omega) only [go_sem, Nat.reduceAdd, Nat.reduceMul, Nat.reduceSub, Nat.reduceEqDiff, Nat.reduceLT, Nat.reduceLeDiff, reduceIte, reduceCtorEq, Int.reduceLE, Int.reduceLT, Int.reduceGE, Int.reduceGT, Int.reduceAdd, Int.reduceSub, Int.reduceMul, Int.reduceToNat, Int.reduceBEq, Int.reduceBNe, Nat.reduceBEq, Nat.reduceDiv, Nat.reduceMod, Nat.reduceBEq, Int.reduceNeg, Int.reduceToNat, Int.reduceEq, Nat.reduceLeDiff, go_sem], by simp -implicitDefEqProofs (disch := omega) only [go_sem, Nat.reduceAdd, Nat.reduceMul, Nat.reduceSub, Nat.reduceEqDiff, Nat.reduceLT, Nat.reduceLeDiff, reduceIte, reduceCtorEq, Int.reduceLE, Int.reduceLT, Int.reduceGE, Int.reduceGT, Int.reduceAdd, Int.reduceSub, Int.reduceMul, Int.reduceToNat, Int.reduceBEq, Int.reduceBNe, Nat.reduceBEq, Nat.reduceDiv, Nat.reduceMod, Nat.reduceBEq, Int.reduceNeg, Int.reduceToNat, Int.reduceEq, Nat.reduceLeDiff, go_sem]⟩ ?_
  rintro i ⟨t, σ⟩ ⟨hi, g0, g3, g4⟩
  simp only at g0 g3 g4
  simp -implicitDefEqProofs (disch := omega) only [go_sem, Nat.reduceAdd, Nat.reduceMul, Nat.reduceSub, Nat.reduceEqDiff, Nat.reduceLT, Nat.reduceLeDiff, reduceIte, reduceCtorEq, Int.reduceLE, Int.reduceLT, Int.reduceGE, Int.reduceGT, Int.reduceAdd, Int.reduceSub, Int.reduceMul, Int.reduceToNat, Int.reduceBEq, Int.reduceBNe, Nat.reduceBEq, Nat.reduceDiv, Nat.reduceMod, Nat.reduceBEq, Int.reduceNeg, Int.reduceToNat, Int.reduceEq, Nat.reduceLeDiff, lp18_0, g0, g4]
  refine condC_dec (fun hc => ?_) (fun hc => ?_)
  · have hx := hm _ (gt_mem8 hc)
    have h1 := RNum1_ok hx
    have ha : 0 ≤ gt m i := hx.1
    have hb : gt m i < 18446744073709551616 := by omega
    have hlen : ((m.take i).map byte1).length ≤ 100 := by simp; omega
    simp -implicitDefEqProofs (disch := omega) only [go_sem, Nat.reduceAdd, Nat.reduceMul, Nat.reduceSub, Nat.reduceEqDiff, Nat.reduceLT, Nat.reduceLeDiff, reduceIte, reduceCtorEq, Int.reduceLE, Int.reduceLT, Int.reduceGE, Int.reduceGT, Int.reduceAdd, Int.reduceSub, Int.reduceMul, Int.reduceToNat, Int.reduceBEq, Int.reduceBNe, Nat.reduceBEq, Nat.reduceDiv, Nat.reduceMod, Nat.reduceBEq, Int.reduceNeg, Int.reduceToNat, Int.reduceEq, Nat.reduceLeDiff, g0, g3, g4, iI, h1]
    refine ⟨i + 1, by omega, by omega, by simp -implicitDefEqProofs (disch := omega) only [go_sem, Nat.reduceAdd, Nat.reduceMul, Nat.reduceSub, Nat.reduceEqDiff, Nat.reduceLT, Nat.reduceLeDiff, reduceIte, reduceCtorEq, Int.reduceLE, Int.reduceLT, Int.reduceGE, Int.reduceGT, Int.reduceAdd, Int.reduceSub, Int.reduceMul, Int.reduceToNat, Int.reduceBEq, Int.reduceBNe, Nat.reduceBEq, Nat.reduceDiv, Nat.reduceMod, Nat.reduceBEq, Int.reduceNeg, Int.reduceToNat, Int.reduceEq, Nat.reduceLeDiff, g0, iI], ?_, by simp -implicitDefEqProofs (disch := omega) only [go_sem, Nat.reduceAdd, Nat.reduceMul, Nat.reduceSub, Nat.reduceEqDiff, Nat.reduceLT, Nat.reduceLeDiff, reduceIte, reduceCtorEq, Int.reduceLE, Int.reduceLT, Int.reduceGE, Int.reduceGT, Int.reduceAdd, Int.reduceSub, Int.reduceMul, Int.reduceToNat, Int.reduceBEq, Int.reduceBNe, Nat.reduceBEq, Nat.reduceDiv, Nat.reduceMod, Nat.reduceBEq, Int.reduceNeg, Int.reduceToNat, Int.reduceEq, Nat.reduceLeDiff, go_sem]⟩
    have e : UInt8.ofNat m.length :: (m.take (i + 1)).map byte1 = UInt8.ofNat m.length :: ((m.take i).map byte1) ++ [byte1 (gt m i)] := by rw [take_gt hc]; simp
    rw [e]
    simp -implicitDefEqProofs (disch := omega) only [go_sem, Nat.reduceAdd, Nat.reduceMul, Nat.reduceSub, Nat.reduceEqDiff, Nat.reduceLT, Nat.reduceLeDiff, reduceIte, reduceCtorEq, Int.reduceLE, Int.reduceLT, Int.reduceGE, Int.reduceGT, Int.reduceAdd, Int.reduceSub, Int.reduceMul, Int.reduceToNat, Int.reduceBEq, Int.reduceBNe, Nat.reduceBEq, Nat.reduceDiv, Nat.reduceMod, Nat.reduceBEq, Int.reduceNeg, Int.reduceToNat, Int.reduceEq, Nat.reduceLeDiff, go_sem]
  · obtain rfl : i = m.length := by omega
    rw [take_all (Nat.le_refl _)] at g3
    simp -implicitDefEqProofs (disch := omega) only [go_sem, Nat.reduceAdd, Nat.reduceMul, Nat.reduceSub, Nat.reduceEqDiff, Nat.reduceLT, Nat.reduceLeDiff, reduceIte, reduceCtorEq, Int.reduceLE, Int.reduceLT, Int.reduceGE, Int.reduceGT, Int.reduceAdd, Int.reduceSub, Int.reduceMul, Int.reduceToNat, Int.reduceBEq, Int.reduceBNe, Nat.reduceBEq, Nat.reduceDiv, Nat.reduceMod, Nat.reduceBEq, Int.reduceNeg, Int.reduceToNat, Int.reduceEq, Nat.reduceLeDiff, g3, membB]
theorem hash32_of {s : List UInt8} (h : s.length = 32) : hash32 s = s := by rw [hash32_long s (by omega), take_all (by omega)]
theorem fine_of {h : Hd} (hf : h.fine = true) : ¬ h.n = 0 ∧ h.p.length = 32 ∧ h.t.length = 32 ∧ h.s.length = 32 ∧ membersB h.m = true := by
  unfold Hd.fine at hf
  simpa only [Bool.and_eq_true, decide_eq_true_eq] using hf
theorem RBytes8_ok (h : Hd) (hf : h.fine = true) (k : SK) : Gf fns 8 [.agg (h.v (h.ms k))] = some (.str h.bytes, []) := by
  obtain ⟨n, p, t, s, m⟩ := h
  obtain ⟨h0, h1, h2, h3, h4⟩ := fine_of hf
  simp only at h0 h1 h2 h3 h4
  have r := (memb_range h4).1
  have l := memb_len h4
  have g1 := RefHash_ok p (by omega)
  have g2 := RefHash_ok t (by omega)
  have g3 := RefHash_ok s (by omega)
  rw [hash32_of h1] at g1
  rw [hash32_of h2] at g2
  rw [hash32_of h3] at g3
  have g4 := MembersBytes_ok k m (fun x hx => ⟨(r x hx).1, by have := (r x hx).2; omega⟩) (by omega)
  have g5 := RefNumberAny_ok n 8
  rw [show bytes8 8 = 8 from rfl] at g5
  have l1 := numB_len 8 n
  have l2 : (membB m).length ≤ 17 := by simp [membB]; omega
  refine Gf_start rfl rfl ?_
  simp -implicitDefEqProofs (disch := omega) only [go_sem, Nat.reduceAdd, Nat.reduceMul, Nat.reduceSub, Nat.reduceEqDiff, Nat.reduceLT, Nat.reduceLeDiff, reduceIte, reduceCtorEq, Int.reduceLE, Int.reduceLT, Int.reduceGE, Int.reduceGT, Int.reduceAdd, Int.reduceSub, Int.reduceMul, Int.reduceToNat, Int.reduceBEq, Int.reduceBNe, Nat.reduceBEq, Nat.reduceDiv, Nat.reduceMod, Nat.reduceBEq, Int.reduceNeg, Int.reduceToNat, Int.reduceEq, Nat.reduceLeDiff, Hd.v, Hd.ms]
  refine wp_draw_E ?_
  simp -implicitDefEqProofs (disch := omega) only [go_sem, Nat.reduceAdd, Nat.reduceMul, Nat.reduceSub, Nat.reduceEqDiff, Nat.reduceLT, Nat.reduceLeDiff, reduceIte, reduceCtorEq, Int.reduceLE, Int.reduceLT, Int.reduceGE, Int.reduceGT, Int.reduceAdd, Int.reduceSub, Int.reduceMul, Int.reduceToNat, Int.reduceBEq, Int.reduceBNe, Nat.reduceBEq, Nat.reduceDiv, Nat.reduceMod, Nat.reduceBEq, Int.reduceNeg, Int.reduceToNat, Int.reduceEq, Nat.reduceLeDiff, g1, g2, g3, g4, g5, Hd.bytes, List.append_assoc]
theorem Same_ok (a b : Hd) (ha : a.m.length ≤ 140737488355328) (hb : b.m.length ≤ 140737488355328) (k k2 : SK) : Gf fns 9 [.agg (a.v (a.ms k)), .agg (b.v (b.ms k2))] = some (.bool (decide (a = b)), []) := by
  obtain ⟨n, p, t, s, m⟩ := a
  obtain ⟨n2, p2, t2, s2, m2⟩ := b
  have he := Equal_ok k k2 m m2 ha hb
  have e0 : (n.toNat = n2.toNat) = (n = n2) := propext UInt64.toNat_inj
  refine Gf_start rfl rfl ?_
  by_cases c0 : n = n2
  · by_cases c1 : p = p2
    · by_cases c2 : t = t2
      · by_cases c3 : s = s2
        · simp -implicitDefEqProofs (disch := omega) only [go_sem, Nat.reduceAdd, Nat.reduceMul, Nat.reduceSub, Nat.reduceEqDiff, Nat.reduceLT, Nat.reduceLeDiff, reduceIte, reduceCtorEq, Int.reduceLE, Int.reduceLT, Int.reduceGE, Int.reduceGT, Int.reduceAdd, Int.reduceSub, Int.reduceMul, Int.reduceToNat, Int.reduceBEq, Int.reduceBNe, Nat.reduceBEq, Nat.reduceDiv, Nat.reduceMod, Nat.reduceBEq, Int.reduceNeg, Int.reduceToNat, Int.reduceEq, Nat.reduceLeDiff, Hd.v, Hd.ms, c0, c1, c2, c3, he, Hd.mk.injEq]
        · simp -implicitDefEqProofs (disch := omega) only [go_sem, Nat.reduceAdd, Nat.reduceMul, Nat.reduceSub, Nat.reduceEqDiff, Nat.reduceLT, Nat.reduceLeDiff, reduceIte, reduceCtorEq, Int.reduceLE, Int.reduceLT, Int.reduceGE, Int.reduceGT, Int.reduceAdd, Int.reduceSub, Int.reduceMul, Int.reduceToNat, Int.reduceBEq, Int.reduceBNe, Nat.reduceBEq, Nat.reduceDiv, Nat.reduceMod, Nat.reduceBEq, Int.reduceNeg, Int.reduceToNat, Int.reduceEq, Nat.reduceLeDiff, Hd.v, Hd.ms, c0, c1, c2, c3, Hd.mk.injEq]
      · simp -implicitDefEqProofs (disch := omega) only [go_sem, Nat.reduceAdd, Nat.reduceMul, Nat.reduceSub, Nat.reduceEqDiff, Nat.reduceLT, Nat.reduceLeDiff, reduceIte, reduceCtorEq, Int.reduceLE, Int.reduceLT, Int.reduceGE, Int.reduceGT, Int.reduceAdd, Int.reduceSub, Int.reduceMul, Int.reduceToNat, Int.reduceBEq, Int.reduceBNe, Nat.reduceBEq, Nat.reduceDiv, Nat.reduceMod, Nat.reduceBEq, Int.reduceNeg, Int.reduceToNat, Int.reduceEq, Nat.reduceLeDiff, Hd.v, Hd.ms, c0, c1, c2, Hd.mk.injEq]
    · simp -implicitDefEqProofs (disch := omega) only [go_sem, Nat.reduceAdd, Nat.reduceMul, Nat.reduceSub, Nat.reduceEqDiff, Nat.reduceLT, Nat.reduceLeDiff, reduceIte, reduceCtorEq, Int.reduceLE, Int.reduceLT, Int.reduceGE, Int.reduceGT, Int.reduceAdd, Int.reduceSub, Int.reduceMul, Int.reduceToNat, Int.reduceBEq, Int.reduceBNe, Nat.reduceBEq, Nat.reduceDiv, Nat.reduceMod, Nat.reduceBEq, Int.reduceNeg, Int.reduceToNat, Int.reduceEq, Nat.reduceLeDiff, Hd.v, Hd.ms, c0, c1, Hd.mk.injEq]
  · simp -implicitDefEqProofs (disch := omega) only [go_sem, Nat.reduceAdd, Nat.reduceMul, Nat.reduceSub, Nat.reduceEqDiff, Nat.reduceLT, Nat.reduceLeDiff, reduceIte, reduceCtorEq, Int.reduceLE, Int.reduceLT, Int.reduceGE, Int.reduceGT, Int.reduceAdd, Int.reduceSub, Int.reduceMul, Int.reduceToNat, Int.reduceBEq, Int.reduceBNe, Nat.reduceBEq, Nat.reduceDiv, Nat.reduceMod, Nat.reduceBEq, Int.reduceNeg, Int.reduceToNat, Int.reduceEq, Nat.reduceLeDiff, Hd.v, Hd.ms, e0, c0, Hd.mk.injEq]
theorem HClone_ok (h : Hd) (hf : h.fine = true) : Gf fns 7 [.agg (h.v (h.ms .ro))] = some (.agg (h.v (.osl 1 h.m.length (h.m.map iI))), []) := by
  obtain ⟨n, p, t, s, m⟩ := h
  obtain ⟨h0, h1, h2, h3, h4⟩ := fine_of hf
  simp only at h4
  have r := (memb_range h4).2
  have l := memb_len h4
  have g := Clone_ok m (by omega) r
  have e : ¬ m.length = 0 := by omega
  have e7 := iI_ro 6 m
  have e6 := iI_ro 5 m
  refine Gf_start rfl rfl ?_
  simp -implicitDefEqProofs (disch := omega) only [go_sem, Nat.reduceAdd, Nat.reduceMul, Nat.reduceSub, Nat.reduceEqDiff, Nat.reduceLT, Nat.reduceLeDiff, reduceIte, reduceCtorEq, Int.reduceLE, Int.reduceLT, Int.reduceGE, Int.reduceGT, Int.reduceAdd, Int.reduceSub, Int.reduceMul, Int.reduceToNat, Int.reduceBEq, Int.reduceBNe, Nat.reduceBEq, Nat.reduceDiv, Nat.reduceMod, Nat.reduceBEq, Int.reduceNeg, Int.reduceToNat, Int.reduceEq, Nat.reduceLeDiff, Hd.v, Hd.ms, g, e7, e6]
theorem zeros_ok : Gf fns 13 [] = some (.str (List.replicate 32 0), []) := by
  have h := RefHash_ok [] (by simp)
  have e : hash32 [] = List.replicate 32 0 := by kernel_rfl
  rw [e] at h
  refine Gf_start rfl rfl ?_
  simp -implicitDefEqProofs (disch := omega) only [go_sem, Nat.reduceAdd, Nat.reduceMul, Nat.reduceSub, Nat.reduceEqDiff, Nat.reduceLT, Nat.reduceLeDiff, reduceIte, reduceCtorEq, Int.reduceLE, Int.reduceLT, Int.reduceGE, Int.reduceGT, Int.reduceAdd, Int.reduceSub, Int.reduceMul, Int.reduceToNat, Int.reduceBEq, Int.reduceBNe, Nat.reduceBEq, Nat.reduceDiv, Nat.reduceMod, Nat.reduceBEq, Int.reduceNeg, Int.reduceToNat, Int.reduceEq, Nat.reduceLeDiff, h]
end Go.Vm.Ytdiceoghiboaaaa
