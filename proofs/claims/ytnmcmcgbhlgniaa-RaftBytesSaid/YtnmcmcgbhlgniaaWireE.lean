/- The writer's calls. -/
import Derived.Test.YtnmcmcgbhlgniaaWireD
set_option linter.unusedSectionVars false
set_option linter.unusedSimpArgs false
set_option linter.unusedVariables false
set_option maxHeartbeats 1000000
set_option maxRecDepth 10000
namespace Go.Vm
theorem startW {tbl : Tbl} {ms : List Mode} {res : List IRes} {body : IC} {Q : V × List V → Prop} {B : List UInt8} {xs : List V} (hx : ∀ σ k, mapM' (matV σ 8) k xs = some (xs, [], k))
    (h : ∀ σ, WAt B 0 1 [1] σ → wpA tbl body (endQ ms res (.ptr 0 1 0 :: xs) Q) ⟨fun i => (V.ptr 0 1 0 :: xs).getD i (.tup []), σ⟩) : startA tbl ms res body Q (inV (wrV B :: xs)) := by
  by_cases hb : B = []
  · have e : inV (wrV B :: xs) = some (.ptr 0 1 0 :: xs, [(0, ⟨1, .rw, false, [.sl .nil 0 []]⟩)], 1) := by simp -implicitDefEqProofs (disch := omega) only [go_sem, Nat.reduceAdd, Nat.reduceMul, Nat.reduceSub, Nat.reduceEqDiff, Nat.reduceLT, Nat.reduceLeDiff, reduceIte, reduceCtorEq, Int.reduceLE, Int.reduceLT, Int.reduceGE, Int.reduceGT, Int.reduceAdd, Int.reduceSub, Int.reduceMul, Int.reduceToNat, Int.reduceBEq, Int.reduceBNe, Nat.reduceBEq, Nat.reduceDiv, Nat.reduceMod, Int.reduceNeg, Int.reduceEq, wrV, hb, hx]
    rw [e, startA_some]
    exact h _ (.inl ⟨hb, by simp -implicitDefEqProofs (disch := omega) only [go_sem, Nat.reduceAdd, Nat.reduceMul, Nat.reduceSub, Nat.reduceEqDiff, Nat.reduceLT, Nat.reduceLeDiff, reduceIte, reduceCtorEq, Int.reduceLE, Int.reduceLT, Int.reduceGE, Int.reduceGT, Int.reduceAdd, Int.reduceSub, Int.reduceMul, Int.reduceToNat, Int.reduceBEq, Int.reduceBNe, Nat.reduceBEq, Nat.reduceDiv, Nat.reduceMod, Int.reduceNeg, Int.reduceEq, go_sem]⟩)
  · have e : inV (wrV B :: xs) = some (.ptr 0 1 0 :: xs, [(1, ⟨1, .rw, true, B.map u8⟩), (0, ⟨1, .rw, false, [.sli 1 1 0 B.length 1]⟩)], 2) := by simp -implicitDefEqProofs (disch := omega) only [go_sem, Nat.reduceAdd, Nat.reduceMul, Nat.reduceSub, Nat.reduceEqDiff, Nat.reduceLT, Nat.reduceLeDiff, reduceIte, reduceCtorEq, Int.reduceLE, Int.reduceLT, Int.reduceGE, Int.reduceGT, Int.reduceAdd, Int.reduceSub, Int.reduceMul, Int.reduceToNat, Int.reduceBEq, Int.reduceBNe, Nat.reduceBEq, Nat.reduceDiv, Nat.reduceMod, Int.reduceNeg, Int.reduceEq, wrV, hb, hx]
    rw [e, startA_some]
    exact h _ (.inr ⟨hb, 1, 1, by simp, by simp -implicitDefEqProofs (disch := omega) only [go_sem, Nat.reduceAdd, Nat.reduceMul, Nat.reduceSub, Nat.reduceEqDiff, Nat.reduceLT, Nat.reduceLeDiff, reduceIte, reduceCtorEq, Int.reduceLE, Int.reduceLT, Int.reduceGE, Int.reduceGT, Int.reduceAdd, Int.reduceSub, Int.reduceMul, Int.reduceToNat, Int.reduceBEq, Int.reduceBNe, Nat.reduceBEq, Nat.reduceDiv, Nat.reduceMod, Int.reduceNeg, Int.reduceEq, go_sem], by simp -implicitDefEqProofs (disch := omega) only [go_sem, Nat.reduceAdd, Nat.reduceMul, Nat.reduceSub, Nat.reduceEqDiff, Nat.reduceLT, Nat.reduceLeDiff, reduceIte, reduceCtorEq, Int.reduceLE, Int.reduceLT, Int.reduceGE, Int.reduceGT, Int.reduceAdd, Int.reduceSub, Int.reduceMul, Int.reduceToNat, Int.reduceBEq, Int.reduceBNe, Nat.reduceBEq, Nat.reduceDiv, Nat.reduceMod, Int.reduceNeg, Int.reduceEq, go_sem]⟩)
theorem endW {tbl : Tbl} {bs : List Mode} {xs : List V} {Y : List UInt8} {ids : List Nat} {t : Nat → V} {σ : Store} (h : WAt Y 0 1 ids σ) (h0 : 0 ∉ ids) (hi : iosV σ bs xs = some ([], [])) : okP (outR (.io :: bs) [] (.ptr 0 1 0 :: xs) ⟨t, σ⟩) (fun p => p = (.tup [], [wrV Y])) := by
  obtain ⟨l, h1, h2, _⟩ := h.own h0
  rw [outR_b, ress_nil, Option.bind_some, tup_0, own_tup, mapQ_nil, Option.map_some, Option.bind_some, ios_io]
  rw [show dep = 8 from rfl, h1, Option.bind_some, hi, Option.bind_some, Option.bind_some]
  simp only [List.nil_append, List.append_nil]
  rw [if_pos h2]
  rfl
end Go.Vm
namespace Go.Vm.Ytnmcmcgbhlgniaa
open Go.Proofs
theorem WBytes_ok (B s : List UInt8) (hB : B.length + s.length ≤ 100000000000000) : Gf fns 51 [wrV B, .str s] = some (.tup [], [wrV (B ++ s)]) := by
  refine Gf_start rfl rfl ?_
  by_cases hb : B = []
  · subst hb
    by_cases hs : s = []
    · subst hs
      simp -implicitDefEqProofs (disch := omega) only [go_sem, Nat.reduceAdd, Nat.reduceMul, Nat.reduceSub, Nat.reduceEqDiff, Nat.reduceLT, Nat.reduceLeDiff, reduceIte, reduceCtorEq, Int.reduceLE, Int.reduceLT, Int.reduceGE, Int.reduceGT, Int.reduceAdd, Int.reduceSub, Int.reduceMul, Int.reduceToNat, Int.reduceBEq, Int.reduceBNe, Nat.reduceBEq, Nat.reduceDiv, Nat.reduceMod, Int.reduceNeg, Int.reduceEq, wrV]
    · have h0 : ¬ s.length = 0 := by simpa using hs
      simp -implicitDefEqProofs (disch := omega) only [go_sem, Nat.reduceAdd, Nat.reduceMul, Nat.reduceSub, Nat.reduceEqDiff, Nat.reduceLT, Nat.reduceLeDiff, reduceIte, reduceCtorEq, Int.reduceLE, Int.reduceLT, Int.reduceGE, Int.reduceGT, Int.reduceAdd, Int.reduceSub, Int.reduceMul, Int.reduceToNat, Int.reduceBEq, Int.reduceBNe, Nat.reduceBEq, Nat.reduceDiv, Nat.reduceMod, Int.reduceNeg, Int.reduceEq, wrV, hs, h0]
  · by_cases hs : s = []
    · subst hs
      simp -implicitDefEqProofs (disch := omega) only [go_sem, Nat.reduceAdd, Nat.reduceMul, Nat.reduceSub, Nat.reduceEqDiff, Nat.reduceLT, Nat.reduceLeDiff, reduceIte, reduceCtorEq, Int.reduceLE, Int.reduceLT, Int.reduceGE, Int.reduceGT, Int.reduceAdd, Int.reduceSub, Int.reduceMul, Int.reduceToNat, Int.reduceBEq, Int.reduceBNe, Nat.reduceBEq, Nat.reduceDiv, Nat.reduceMod, Int.reduceNeg, Int.reduceEq, wrV, hb, List.append_nil]
    · have h0 : ¬ s.length = 0 := by simpa using hs
      have hbs : ¬ B ++ s = [] := by simp [hb]
      have hl : (B ++ s).length = B.length + s.length := List.length_append
      simp -implicitDefEqProofs (disch := omega) only [go_sem, Nat.reduceAdd, Nat.reduceMul, Nat.reduceSub, Nat.reduceEqDiff, Nat.reduceLT, Nat.reduceLeDiff, reduceIte, reduceCtorEq, Int.reduceLE, Int.reduceLT, Int.reduceGE, Int.reduceGT, Int.reduceAdd, Int.reduceSub, Int.reduceMul, Int.reduceToNat, Int.reduceBEq, Int.reduceBNe, Nat.reduceBEq, Nat.reduceDiv, Nat.reduceMod, Int.reduceNeg, Int.reduceEq, wrV, hb, hbs, h0]
theorem WNumber_ok (B : List UInt8) (n : UInt64) (b : Int) (hb : -9223372036854775808 ≤ b ∧ b < 9223372036854775808) (hB : B.length ≤ 10000000000000) : Gf fns 50 [wrV B, .int .u64 (n.toNat : Int), .int .i64 b] = some (.tup [], [wrV (B ++ numB n (bytes8 b))]) := by
  have h8 : (numB n (bytes8 b)).length ≤ 8 := by rw [numB_len]; unfold bytes8; omega
  refine Gf_start rfl rfl (startW (fun σ k => by simp -implicitDefEqProofs (disch := omega) only [go_sem, Nat.reduceAdd, Nat.reduceMul, Nat.reduceSub, Nat.reduceEqDiff, Nat.reduceLT, Nat.reduceLeDiff, reduceIte, reduceCtorEq, Int.reduceLE, Int.reduceLT, Int.reduceGE, Int.reduceGT, Int.reduceAdd, Int.reduceSub, Int.reduceMul, Int.reduceToNat, Int.reduceBEq, Int.reduceBNe, Nat.reduceBEq, Nat.reduceDiv, Nat.reduceMod, Int.reduceNeg, Int.reduceEq, go_sem]) fun σ hs => ?_)
  simp -implicitDefEqProofs (disch := omega) only [go_sem, Nat.reduceAdd, Nat.reduceMul, Nat.reduceSub, Nat.reduceEqDiff, Nat.reduceLT, Nat.reduceLeDiff, reduceIte, reduceCtorEq, Int.reduceLE, Int.reduceLT, Int.reduceGE, Int.reduceGT, Int.reduceAdd, Int.reduceSub, Int.reduceMul, Int.reduceToNat, Int.reduceBEq, Int.reduceBNe, Nat.reduceBEq, Nat.reduceDiv, Nat.reduceMod, Int.reduceNeg, Int.reduceEq, Number_ok n b hb]
  refine contC_ex (wcall (f := 51) rfl B _ 0 1 [1] hs (by simp) (by simp -implicitDefEqProofs (disch := omega) only [go_sem, Nat.reduceAdd, Nat.reduceMul, Nat.reduceSub, Nat.reduceEqDiff, Nat.reduceLT, Nat.reduceLeDiff, reduceIte, reduceCtorEq, Int.reduceLE, Int.reduceLT, Int.reduceGE, Int.reduceGT, Int.reduceAdd, Int.reduceSub, Int.reduceMul, Int.reduceToNat, Int.reduceBEq, Int.reduceBNe, Nat.reduceBEq, Nat.reduceDiv, Nat.reduceMod, Int.reduceNeg, Int.reduceEq, go_sem]) (WBytes_ok B (numB n (bytes8 b)) (by omega)) (fun k σ' => by simp -implicitDefEqProofs (disch := omega) only [go_sem, Nat.reduceAdd, Nat.reduceMul, Nat.reduceSub, Nat.reduceEqDiff, Nat.reduceLT, Nat.reduceLeDiff, reduceIte, reduceCtorEq, Int.reduceLE, Int.reduceLT, Int.reduceGE, Int.reduceGT, Int.reduceAdd, Int.reduceSub, Int.reduceMul, Int.reduceToNat, Int.reduceBEq, Int.reduceBNe, Nat.reduceBEq, Nat.reduceDiv, Nat.reduceMod, Int.reduceNeg, Int.reduceEq, go_sem])) ?_
  rintro σ2 ⟨hs2, _⟩
  obtain ⟨l, o1, o2, _⟩ := hs2.own (by simp)
  simp -implicitDefEqProofs (disch := omega) only [go_sem, Nat.reduceAdd, Nat.reduceMul, Nat.reduceSub, Nat.reduceEqDiff, Nat.reduceLT, Nat.reduceLeDiff, reduceIte, reduceCtorEq, Int.reduceLE, Int.reduceLT, Int.reduceGE, Int.reduceGT, Int.reduceAdd, Int.reduceSub, Int.reduceMul, Int.reduceToNat, Int.reduceBEq, Int.reduceBNe, Nat.reduceBEq, Nat.reduceDiv, Nat.reduceMod, Int.reduceNeg, Int.reduceEq, o1, o2]
theorem WCount_ok (B : List UInt8) (n : Int) (hn : n < 9223372036854775808) (hB : B.length ≤ 10000000000000) : Gf fns 33 [wrV B, .int .i64 n] = some (.tup [], [wrV (B ++ numB (UInt64.ofNat n.toNat) 4)]) := by
  have hm : max n 0 = ((UInt64.ofNat n.toNat).toNat : Int) := by
    rw [UInt64.toNat_ofNat_of_lt' (by show n.toNat < 18446744073709551616; omega)]
    omega
  have hw := WNumber_ok B (UInt64.ofNat n.toNat) 4 (by omega) hB
  have e4 : bytes8 4 = 4 := rfl
  rw [e4] at hw
  refine Gf_start rfl rfl (startW (fun σ k => by simp -implicitDefEqProofs (disch := omega) only [go_sem, Nat.reduceAdd, Nat.reduceMul, Nat.reduceSub, Nat.reduceEqDiff, Nat.reduceLT, Nat.reduceLeDiff, reduceIte, reduceCtorEq, Int.reduceLE, Int.reduceLT, Int.reduceGE, Int.reduceGT, Int.reduceAdd, Int.reduceSub, Int.reduceMul, Int.reduceToNat, Int.reduceBEq, Int.reduceBNe, Nat.reduceBEq, Nat.reduceDiv, Nat.reduceMod, Int.reduceNeg, Int.reduceEq, go_sem]) fun σ hs => ?_)
  simp -implicitDefEqProofs (disch := omega) only [go_sem, Nat.reduceAdd, Nat.reduceMul, Nat.reduceSub, Nat.reduceEqDiff, Nat.reduceLT, Nat.reduceLeDiff, reduceIte, reduceCtorEq, Int.reduceLE, Int.reduceLT, Int.reduceGE, Int.reduceGT, Int.reduceAdd, Int.reduceSub, Int.reduceMul, Int.reduceToNat, Int.reduceBEq, Int.reduceBNe, Nat.reduceBEq, Nat.reduceDiv, Nat.reduceMod, Int.reduceNeg, Int.reduceEq, hm]
  refine contC_ex (wcall (f := 50) rfl B _ 0 1 [1] hs (by simp) (by simp -implicitDefEqProofs (disch := omega) only [go_sem, Nat.reduceAdd, Nat.reduceMul, Nat.reduceSub, Nat.reduceEqDiff, Nat.reduceLT, Nat.reduceLeDiff, reduceIte, reduceCtorEq, Int.reduceLE, Int.reduceLT, Int.reduceGE, Int.reduceGT, Int.reduceAdd, Int.reduceSub, Int.reduceMul, Int.reduceToNat, Int.reduceBEq, Int.reduceBNe, Nat.reduceBEq, Nat.reduceDiv, Nat.reduceMod, Int.reduceNeg, Int.reduceEq, go_sem]) hw (fun k σ' => by simp -implicitDefEqProofs (disch := omega) only [go_sem, Nat.reduceAdd, Nat.reduceMul, Nat.reduceSub, Nat.reduceEqDiff, Nat.reduceLT, Nat.reduceLeDiff, reduceIte, reduceCtorEq, Int.reduceLE, Int.reduceLT, Int.reduceGE, Int.reduceGT, Int.reduceAdd, Int.reduceSub, Int.reduceMul, Int.reduceToNat, Int.reduceBEq, Int.reduceBNe, Nat.reduceBEq, Nat.reduceDiv, Nat.reduceMod, Int.reduceNeg, Int.reduceEq, go_sem])) ?_
  rintro σ2 ⟨hs2, _⟩
  obtain ⟨l, o1, o2, _⟩ := hs2.own (by simp)
  simp -implicitDefEqProofs (disch := omega) only [go_sem, Nat.reduceAdd, Nat.reduceMul, Nat.reduceSub, Nat.reduceEqDiff, Nat.reduceLT, Nat.reduceLeDiff, reduceIte, reduceCtorEq, Int.reduceLE, Int.reduceLT, Int.reduceGE, Int.reduceGT, Int.reduceAdd, Int.reduceSub, Int.reduceMul, Int.reduceToNat, Int.reduceBEq, Int.reduceBNe, Nat.reduceBEq, Nat.reduceDiv, Nat.reduceMod, Int.reduceNeg, Int.reduceEq, o1, o2]
theorem WText_ok (B s : List UInt8) (hB : B.length + s.length ≤ 1000000000000) : Gf fns 35 [wrV B, .str s] = some (.tup [], [wrV (B ++ numB (UInt64.ofNat s.length) 4 ++ s)]) := by
  have hc := WCount_ok B (s.length : Int) (by omega) (by omega)
  rw [Int.toNat_natCast] at hc
  have h4 := numB_len 4 (UInt64.ofNat s.length)
  have hb := WBytes_ok (B ++ numB (UInt64.ofNat s.length) 4) s (by rw [List.length_append]; omega)
  refine Gf_start rfl rfl (startW (fun σ k => by simp -implicitDefEqProofs (disch := omega) only [go_sem, Nat.reduceAdd, Nat.reduceMul, Nat.reduceSub, Nat.reduceEqDiff, Nat.reduceLT, Nat.reduceLeDiff, reduceIte, reduceCtorEq, Int.reduceLE, Int.reduceLT, Int.reduceGE, Int.reduceGT, Int.reduceAdd, Int.reduceSub, Int.reduceMul, Int.reduceToNat, Int.reduceBEq, Int.reduceBNe, Nat.reduceBEq, Nat.reduceDiv, Nat.reduceMod, Int.reduceNeg, Int.reduceEq, go_sem]) fun σ hs => ?_)
  simp -implicitDefEqProofs (disch := omega) only [go_sem, Nat.reduceAdd, Nat.reduceMul, Nat.reduceSub, Nat.reduceEqDiff, Nat.reduceLT, Nat.reduceLeDiff, reduceIte, reduceCtorEq, Int.reduceLE, Int.reduceLT, Int.reduceGE, Int.reduceGT, Int.reduceAdd, Int.reduceSub, Int.reduceMul, Int.reduceToNat, Int.reduceBEq, Int.reduceBNe, Nat.reduceBEq, Nat.reduceDiv, Nat.reduceMod, Int.reduceNeg, Int.reduceEq, go_sem]
  refine contC_ex (wcall (f := 33) rfl B _ 0 1 [1] hs (by simp) (by simp -implicitDefEqProofs (disch := omega) only [go_sem, Nat.reduceAdd, Nat.reduceMul, Nat.reduceSub, Nat.reduceEqDiff, Nat.reduceLT, Nat.reduceLeDiff, reduceIte, reduceCtorEq, Int.reduceLE, Int.reduceLT, Int.reduceGE, Int.reduceGT, Int.reduceAdd, Int.reduceSub, Int.reduceMul, Int.reduceToNat, Int.reduceBEq, Int.reduceBNe, Nat.reduceBEq, Nat.reduceDiv, Nat.reduceMod, Int.reduceNeg, Int.reduceEq, go_sem]) hc (fun k σ' => by simp -implicitDefEqProofs (disch := omega) only [go_sem, Nat.reduceAdd, Nat.reduceMul, Nat.reduceSub, Nat.reduceEqDiff, Nat.reduceLT, Nat.reduceLeDiff, reduceIte, reduceCtorEq, Int.reduceLE, Int.reduceLT, Int.reduceGE, Int.reduceGT, Int.reduceAdd, Int.reduceSub, Int.reduceMul, Int.reduceToNat, Int.reduceBEq, Int.reduceBNe, Nat.reduceBEq, Nat.reduceDiv, Nat.reduceMod, Int.reduceNeg, Int.reduceEq, go_sem])) ?_
  rintro σ2 ⟨hs2, _⟩
  simp -implicitDefEqProofs (disch := omega) only [go_sem, Nat.reduceAdd, Nat.reduceMul, Nat.reduceSub, Nat.reduceEqDiff, Nat.reduceLT, Nat.reduceLeDiff, reduceIte, reduceCtorEq, Int.reduceLE, Int.reduceLT, Int.reduceGE, Int.reduceGT, Int.reduceAdd, Int.reduceSub, Int.reduceMul, Int.reduceToNat, Int.reduceBEq, Int.reduceBNe, Nat.reduceBEq, Nat.reduceDiv, Nat.reduceMod, Int.reduceNeg, Int.reduceEq, go_sem]
  refine contC_ex (wcall (f := 51) rfl _ _ 0 1 _ hs2 (by simp) (by simp -implicitDefEqProofs (disch := omega) only [go_sem, Nat.reduceAdd, Nat.reduceMul, Nat.reduceSub, Nat.reduceEqDiff, Nat.reduceLT, Nat.reduceLeDiff, reduceIte, reduceCtorEq, Int.reduceLE, Int.reduceLT, Int.reduceGE, Int.reduceGT, Int.reduceAdd, Int.reduceSub, Int.reduceMul, Int.reduceToNat, Int.reduceBEq, Int.reduceBNe, Nat.reduceBEq, Nat.reduceDiv, Nat.reduceMod, Int.reduceNeg, Int.reduceEq, go_sem]) hb (fun k σ' => by simp -implicitDefEqProofs (disch := omega) only [go_sem, Nat.reduceAdd, Nat.reduceMul, Nat.reduceSub, Nat.reduceEqDiff, Nat.reduceLT, Nat.reduceLeDiff, reduceIte, reduceCtorEq, Int.reduceLE, Int.reduceLT, Int.reduceGE, Int.reduceGT, Int.reduceAdd, Int.reduceSub, Int.reduceMul, Int.reduceToNat, Int.reduceBEq, Int.reduceBNe, Nat.reduceBEq, Nat.reduceDiv, Nat.reduceMod, Int.reduceNeg, Int.reduceEq, go_sem])) ?_
  rintro σ3 ⟨hs3, _⟩
  obtain ⟨l, o1, o2, _⟩ := hs3.own (by simp)
  simp -implicitDefEqProofs (disch := omega) only [go_sem, Nat.reduceAdd, Nat.reduceMul, Nat.reduceSub, Nat.reduceEqDiff, Nat.reduceLT, Nat.reduceLeDiff, reduceIte, reduceCtorEq, Int.reduceLE, Int.reduceLT, Int.reduceGE, Int.reduceGT, Int.reduceAdd, Int.reduceSub, Int.reduceMul, Int.reduceToNat, Int.reduceBEq, Int.reduceBNe, Nat.reduceBEq, Nat.reduceDiv, Nat.reduceMod, Int.reduceNeg, Int.reduceEq, o1, o2]
theorem WBool_ok (B : List UInt8) (b : Bool) (hB : B.length ≤ 10000000000000) : Gf fns 34 [wrV B, .bool b] = some (.tup [], [wrV (B ++ numB (if b = true then 1 else 0) 1)]) := by
  have e1 : bytes8 1 = 1 := rfl
  have h0 := WNumber_ok B 0 1 (by omega) hB
  have h1 := WNumber_ok B 1 1 (by omega) hB
  rw [e1] at h0 h1
  have z0 : ((0 : UInt64).toNat : Int) = 0 := rfl
  have z1 : ((1 : UInt64).toNat : Int) = 1 := rfl
  rw [z0] at h0
  rw [z1] at h1
  refine Gf_start rfl rfl (startW (fun σ k => by simp -implicitDefEqProofs (disch := omega) only [go_sem, Nat.reduceAdd, Nat.reduceMul, Nat.reduceSub, Nat.reduceEqDiff, Nat.reduceLT, Nat.reduceLeDiff, reduceIte, reduceCtorEq, Int.reduceLE, Int.reduceLT, Int.reduceGE, Int.reduceGT, Int.reduceAdd, Int.reduceSub, Int.reduceMul, Int.reduceToNat, Int.reduceBEq, Int.reduceBNe, Nat.reduceBEq, Nat.reduceDiv, Nat.reduceMod, Int.reduceNeg, Int.reduceEq, go_sem]) fun σ hs => ?_)
  cases b with
  | true =>
    simp -implicitDefEqProofs (disch := omega) only [go_sem, Nat.reduceAdd, Nat.reduceMul, Nat.reduceSub, Nat.reduceEqDiff, Nat.reduceLT, Nat.reduceLeDiff, reduceIte, reduceCtorEq, Int.reduceLE, Int.reduceLT, Int.reduceGE, Int.reduceGT, Int.reduceAdd, Int.reduceSub, Int.reduceMul, Int.reduceToNat, Int.reduceBEq, Int.reduceBNe, Nat.reduceBEq, Nat.reduceDiv, Nat.reduceMod, Int.reduceNeg, Int.reduceEq, go_sem]
    refine contC_ex (wcall (f := 50) rfl B _ 0 1 [1] hs (by simp) (by simp -implicitDefEqProofs (disch := omega) only [go_sem, Nat.reduceAdd, Nat.reduceMul, Nat.reduceSub, Nat.reduceEqDiff, Nat.reduceLT, Nat.reduceLeDiff, reduceIte, reduceCtorEq, Int.reduceLE, Int.reduceLT, Int.reduceGE, Int.reduceGT, Int.reduceAdd, Int.reduceSub, Int.reduceMul, Int.reduceToNat, Int.reduceBEq, Int.reduceBNe, Nat.reduceBEq, Nat.reduceDiv, Nat.reduceMod, Int.reduceNeg, Int.reduceEq, go_sem]) h1 (fun k σ' => by simp -implicitDefEqProofs (disch := omega) only [go_sem, Nat.reduceAdd, Nat.reduceMul, Nat.reduceSub, Nat.reduceEqDiff, Nat.reduceLT, Nat.reduceLeDiff, reduceIte, reduceCtorEq, Int.reduceLE, Int.reduceLT, Int.reduceGE, Int.reduceGT, Int.reduceAdd, Int.reduceSub, Int.reduceMul, Int.reduceToNat, Int.reduceBEq, Int.reduceBNe, Nat.reduceBEq, Nat.reduceDiv, Nat.reduceMod, Int.reduceNeg, Int.reduceEq, go_sem])) ?_
    rintro σ2 ⟨hs2, _⟩
    obtain ⟨l, o1, o2, _⟩ := hs2.own (by simp)
    simp -implicitDefEqProofs (disch := omega) only [go_sem, Nat.reduceAdd, Nat.reduceMul, Nat.reduceSub, Nat.reduceEqDiff, Nat.reduceLT, Nat.reduceLeDiff, reduceIte, reduceCtorEq, Int.reduceLE, Int.reduceLT, Int.reduceGE, Int.reduceGT, Int.reduceAdd, Int.reduceSub, Int.reduceMul, Int.reduceToNat, Int.reduceBEq, Int.reduceBNe, Nat.reduceBEq, Nat.reduceDiv, Nat.reduceMod, Int.reduceNeg, Int.reduceEq, o1, o2]
  | false =>
    simp -implicitDefEqProofs (disch := omega) only [go_sem, Nat.reduceAdd, Nat.reduceMul, Nat.reduceSub, Nat.reduceEqDiff, Nat.reduceLT, Nat.reduceLeDiff, reduceIte, reduceCtorEq, Int.reduceLE, Int.reduceLT, Int.reduceGE, Int.reduceGT, Int.reduceAdd, Int.reduceSub, Int.reduceMul, Int.reduceToNat, Int.reduceBEq, Int.reduceBNe, Nat.reduceBEq, Nat.reduceDiv, Nat.reduceMod, Int.reduceNeg, Int.reduceEq, go_sem]
    refine contC_ex (wcall (f := 50) rfl B _ 0 1 [1] hs (by simp) (by simp -implicitDefEqProofs (disch := omega) only [go_sem, Nat.reduceAdd, Nat.reduceMul, Nat.reduceSub, Nat.reduceEqDiff, Nat.reduceLT, Nat.reduceLeDiff, reduceIte, reduceCtorEq, Int.reduceLE, Int.reduceLT, Int.reduceGE, Int.reduceGT, Int.reduceAdd, Int.reduceSub, Int.reduceMul, Int.reduceToNat, Int.reduceBEq, Int.reduceBNe, Nat.reduceBEq, Nat.reduceDiv, Nat.reduceMod, Int.reduceNeg, Int.reduceEq, go_sem]) h0 (fun k σ' => by simp -implicitDefEqProofs (disch := omega) only [go_sem, Nat.reduceAdd, Nat.reduceMul, Nat.reduceSub, Nat.reduceEqDiff, Nat.reduceLT, Nat.reduceLeDiff, reduceIte, reduceCtorEq, Int.reduceLE, Int.reduceLT, Int.reduceGE, Int.reduceGT, Int.reduceAdd, Int.reduceSub, Int.reduceMul, Int.reduceToNat, Int.reduceBEq, Int.reduceBNe, Nat.reduceBEq, Nat.reduceDiv, Nat.reduceMod, Int.reduceNeg, Int.reduceEq, go_sem])) ?_
    rintro σ2 ⟨hs2, _⟩
    obtain ⟨l, o1, o2, _⟩ := hs2.own (by simp)
    simp -implicitDefEqProofs (disch := omega) only [go_sem, Nat.reduceAdd, Nat.reduceMul, Nat.reduceSub, Nat.reduceEqDiff, Nat.reduceLT, Nat.reduceLeDiff, reduceIte, reduceCtorEq, Int.reduceLE, Int.reduceLT, Int.reduceGE, Int.reduceGT, Int.reduceAdd, Int.reduceSub, Int.reduceMul, Int.reduceToNat, Int.reduceBEq, Int.reduceBNe, Nat.reduceBEq, Nat.reduceDiv, Nat.reduceMod, Int.reduceNeg, Int.reduceEq, o1, o2]
/-- A digest's bytes: 32 of them. -/
def hash32 (s : List UInt8) : List UInt8 := s.take 32 ++ List.replicate (32 - s.length) 0
theorem hash32_len (s : List UInt8) : (hash32 s).length = 32 := by simp [hash32]; omega
theorem z32 : [V.int .u8 0, V.int .u8 0, V.int .u8 0, V.int .u8 0, V.int .u8 0, V.int .u8 0, V.int .u8 0, V.int .u8 0, V.int .u8 0, V.int .u8 0, V.int .u8 0, V.int .u8 0, V.int .u8 0, V.int .u8 0, V.int .u8 0, V.int .u8 0, V.int .u8 0, V.int .u8 0, V.int .u8 0, V.int .u8 0, V.int .u8 0, V.int .u8 0, V.int .u8 0, V.int .u8 0, V.int .u8 0, V.int .u8 0, V.int .u8 0, V.int .u8 0, V.int .u8 0, V.int .u8 0, V.int .u8 0, V.int .u8 0] = (List.replicate 32 (0 : UInt8)).map u8 := by kernel_rfl
theorem rep32 : (List.replicate 32 [V.int .u8 0]).flatten = (List.replicate 32 (0 : UInt8)).map u8 := by kernel_rfl
theorem spl32 (s : List UInt8) : splice ((List.replicate 32 (0 : UInt8)).map u8) 0 ((s.take (min s.length 32)).map u8) = (hash32 s).map u8 := by
  unfold splice hash32
  rw [List.take_zero, List.nil_append, Nat.zero_add, List.map_append, ← List.map_drop, List.drop_replicate, List.length_map, List.length_take]
  have e1 : s.take (min s.length 32) = s.take 32 := by
    rcases Nat.le_total s.length 32 with h | h
    · rw [Nat.min_eq_left h, List.take_length, List.take_of_length_le h]
    · rw [Nat.min_eq_right h]
  rw [e1]
  congr 3
  omega
theorem All_ok (B : List UInt8) (hB : B.length ≤ 100000000000000) : Gf fns 13 [.pt [if B = [] then .sl .nil 0 [] else .sl .ro B.length (B.map u8)] 0] = some (.str B, []) := by
  refine Gf_start rfl rfl ?_
  by_cases hb : B = []
  · simp -implicitDefEqProofs (disch := omega) only [go_sem, Nat.reduceAdd, Nat.reduceMul, Nat.reduceSub, Nat.reduceEqDiff, Nat.reduceLT, Nat.reduceLeDiff, reduceIte, reduceCtorEq, Int.reduceLE, Int.reduceLT, Int.reduceGE, Int.reduceGT, Int.reduceAdd, Int.reduceSub, Int.reduceMul, Int.reduceToNat, Int.reduceBEq, Int.reduceBNe, Nat.reduceBEq, Nat.reduceDiv, Nat.reduceMod, Int.reduceNeg, Int.reduceEq, hb]
  · simp -implicitDefEqProofs (disch := omega) only [go_sem, Nat.reduceAdd, Nat.reduceMul, Nat.reduceSub, Nat.reduceEqDiff, Nat.reduceLT, Nat.reduceLeDiff, reduceIte, reduceCtorEq, Int.reduceLE, Int.reduceLT, Int.reduceGE, Int.reduceGT, Int.reduceAdd, Int.reduceSub, Int.reduceMul, Int.reduceToNat, Int.reduceBEq, Int.reduceBNe, Nat.reduceBEq, Nat.reduceDiv, Nat.reduceMod, Int.reduceNeg, Int.reduceEq, hb]
theorem NewWriter_ok : Gf fns 11 [] = some (wrV [], []) := by
  refine Gf_start rfl rfl ?_
  simp -implicitDefEqProofs (disch := omega) only [go_sem, Nat.reduceAdd, Nat.reduceMul, Nat.reduceSub, Nat.reduceEqDiff, Nat.reduceLT, Nat.reduceLeDiff, reduceIte, reduceCtorEq, Int.reduceLE, Int.reduceLT, Int.reduceGE, Int.reduceGT, Int.reduceAdd, Int.reduceSub, Int.reduceMul, Int.reduceToNat, Int.reduceBEq, Int.reduceBNe, Nat.reduceBEq, Nat.reduceDiv, Nat.reduceMod, Int.reduceNeg, Int.reduceEq, wrV]
end Go.Vm.Ytnmcmcgbhlgniaa
