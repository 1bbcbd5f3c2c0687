/- Trees of digests: what the functions answer. -/
import Derived.Test.YtmjllpkkdlflpaaTreeSpec
import Derived.Test.YtmjllpkkdlflpaaShaF
set_option linter.unusedSectionVars false
set_option linter.unusedSimpArgs false
set_option linter.unusedVariables false
set_option maxHeartbeats 1000000
set_option maxRecDepth 10000
namespace Go.Vm
def Small (l : List (List UInt8)) : Prop := l.length ≤ 1000000 ∧ ∀ s ∈ l, s.length ≤ 1000000
theorem Small.take {l : List (List UInt8)} (h : Small l) (n : Nat) : Small (l.take n) := ⟨by have := h.1; simp; omega, fun s hs => h.2 s (List.mem_of_mem_take hs)⟩
theorem Small.drop {l : List (List UInt8)} (h : Small l) (n : Nat) : Small (l.drop n) := ⟨by have := h.1; simp; omega, fun s hs => h.2 s (List.mem_of_mem_drop hs)⟩
theorem gt_mem {α : Type} [Inhabited α] {l : List α} {i : Nat} (h : i < l.length) : gt l i ∈ l := by rw [gt_eq h]; exact List.getElem_mem h
theorem Small.at {l : List (List UInt8)} (h : Small l) {i : Nat} (hi : i < l.length) : (gt l i).length ≤ 1000000 := h.2 _ (gt_mem hi)
/-- Texts that may be none: nil, or a slice of its own. -/
def pathV (p : List (List UInt8)) : V := if p = [] then .sl .nil 0 [] else .osl 1 p.length (p.map V.str)
end Go.Vm
namespace Go.Vm.Ytmjllpkkdlflpaa
open Go.Proofs
def cutS (n : Nat) (k : Nat) (s : St) : Prop := 0 < k ∧ (k < n ∨ k = 1) ∧ s.t 0 = .int .i64 (n : Int) ∧ s.t 3 = .int .i64 (k : Int) ∧ cutGo n k = cut n
theorem cut_ok (n : Nat) (hn : n ≤ 1000000) : Gf fns 20 [.int .i64 (n : Int)] = some (.int .i64 (cut n : Int), []) := by
  refine Gf_start rfl rfl ?_
  simp -implicitDefEqProofs (disch := omega) only [go_sem, Nat.reduceAdd, Nat.reduceMul, Nat.reduceSub, Nat.reduceEqDiff, Nat.reduceLT, Nat.reduceLeDiff, reduceIte, reduceCtorEq, Int.reduceLE, Int.reduceLT, Int.reduceGE, Int.reduceGT, Int.reduceAdd, Int.reduceSub, Int.reduceMul, Int.reduceToNat, Int.reduceBEq, Int.reduceBNe, Nat.reduceBEq, Nat.reduceDiv, Nat.reduceMod, Nat.reduceBEq, Int.reduceNeg, Int.reduceToNat, Int.reduceEq, Nat.reduceLeDiff, go_sem]
  refine wp_loopS (cutS n) (fun k => n - k) 1 ⟨by omega, .inr rfl, by simp -implicitDefEqProofs (disch := omega) only [go_sem, Nat.reduceAdd, Nat.reduceMul, Nat.reduceSub, Nat.reduceEqDiff, Nat.reduceLT, Nat.reduceLeDiff, reduceIte, reduceCtorEq, Int.reduceLE, Int.reduceLT, Int.reduceGE, Int.reduceGT, Int.reduceAdd, Int.reduceSub, Int.reduceMul, Int.reduceToNat, Int.reduceBEq, Int.reduceBNe, Nat.reduceBEq, Nat.reduceDiv, Nat.reduceMod, Nat.reduceBEq, Int.reduceNeg, Int.reduceToNat, Int.reduceEq, Nat.reduceLeDiff, go_sem], by simp -implicitDefEqProofs (disch := omega) only [go_sem, Nat.reduceAdd, Nat.reduceMul, Nat.reduceSub, Nat.reduceEqDiff, Nat.reduceLT, Nat.reduceLeDiff, reduceIte, reduceCtorEq, Int.reduceLE, Int.reduceLT, Int.reduceGE, Int.reduceGT, Int.reduceAdd, Int.reduceSub, Int.reduceMul, Int.reduceToNat, Int.reduceBEq, Int.reduceBNe, Nat.reduceBEq, Nat.reduceDiv, Nat.reduceMod, Nat.reduceBEq, Int.reduceNeg, Int.reduceToNat, Int.reduceEq, Nat.reduceLeDiff, go_sem], rfl⟩ ?_
  rintro k ⟨t, σ⟩ ⟨hk, hk2, h0, h3, hc⟩
  simp only at h0 h3
  simp -implicitDefEqProofs (disch := omega) only [go_sem, Nat.reduceAdd, Nat.reduceMul, Nat.reduceSub, Nat.reduceEqDiff, Nat.reduceLT, Nat.reduceLeDiff, reduceIte, reduceCtorEq, Int.reduceLE, Int.reduceLT, Int.reduceGE, Int.reduceGT, Int.reduceAdd, Int.reduceSub, Int.reduceMul, Int.reduceToNat, Int.reduceBEq, Int.reduceBNe, Nat.reduceBEq, Nat.reduceDiv, Nat.reduceMod, Nat.reduceBEq, Int.reduceNeg, Int.reduceToNat, Int.reduceEq, Nat.reduceLeDiff, lp20_0, h0, h3]
  refine condC_dec (fun h => ?_) (fun h => ?_)
  · simp -implicitDefEqProofs (disch := omega) only [go_sem, Nat.reduceAdd, Nat.reduceMul, Nat.reduceSub, Nat.reduceEqDiff, Nat.reduceLT, Nat.reduceLeDiff, reduceIte, reduceCtorEq, Int.reduceLE, Int.reduceLT, Int.reduceGE, Int.reduceGT, Int.reduceAdd, Int.reduceSub, Int.reduceMul, Int.reduceToNat, Int.reduceBEq, Int.reduceBNe, Nat.reduceBEq, Nat.reduceDiv, Nat.reduceMod, Nat.reduceBEq, Int.reduceNeg, Int.reduceToNat, Int.reduceEq, Nat.reduceLeDiff, h0, h3]
    refine ⟨k * 2, by omega, by omega, .inl (by omega), by simp -implicitDefEqProofs (disch := omega) only [go_sem, Nat.reduceAdd, Nat.reduceMul, Nat.reduceSub, Nat.reduceEqDiff, Nat.reduceLT, Nat.reduceLeDiff, reduceIte, reduceCtorEq, Int.reduceLE, Int.reduceLT, Int.reduceGE, Int.reduceGT, Int.reduceAdd, Int.reduceSub, Int.reduceMul, Int.reduceToNat, Int.reduceBEq, Int.reduceBNe, Nat.reduceBEq, Nat.reduceDiv, Nat.reduceMod, Nat.reduceBEq, Int.reduceNeg, Int.reduceToNat, Int.reduceEq, Nat.reduceLeDiff, h0], by simp -implicitDefEqProofs (disch := omega) only [go_sem, Nat.reduceAdd, Nat.reduceMul, Nat.reduceSub, Nat.reduceEqDiff, Nat.reduceLT, Nat.reduceLeDiff, reduceIte, reduceCtorEq, Int.reduceLE, Int.reduceLT, Int.reduceGE, Int.reduceGT, Int.reduceAdd, Int.reduceSub, Int.reduceMul, Int.reduceToNat, Int.reduceBEq, Int.reduceBNe, Nat.reduceBEq, Nat.reduceDiv, Nat.reduceMod, Nat.reduceBEq, Int.reduceNeg, Int.reduceToNat, Int.reduceEq, Nat.reduceLeDiff, go_sem], ?_⟩
    rw [Nat.mul_comm, ← cutGo_yes ⟨hk, h⟩, hc]
  · rw [cutGo_no (by omega)] at hc
    simp -implicitDefEqProofs (disch := omega) only [go_sem, Nat.reduceAdd, Nat.reduceMul, Nat.reduceSub, Nat.reduceEqDiff, Nat.reduceLT, Nat.reduceLeDiff, reduceIte, reduceCtorEq, Int.reduceLE, Int.reduceLT, Int.reduceGE, Int.reduceGT, Int.reduceAdd, Int.reduceSub, Int.reduceMul, Int.reduceToNat, Int.reduceBEq, Int.reduceBNe, Nat.reduceBEq, Nat.reduceDiv, Nat.reduceMod, Nat.reduceBEq, Int.reduceNeg, Int.reduceToNat, Int.reduceEq, Nat.reduceLeDiff, h3, hc]
theorem node_ok (a b : List UInt8) (ha : a.length ≤ 1000000) (hb : b.length ≤ 1000000) : Gf fns 21 [.str a, .str b] = some (.str (nodeH a b), []) := by
  have h := sha_ok (1 :: (a ++ b)) (by simp; omega)
  refine Gf_start rfl rfl ?_
  simp -implicitDefEqProofs (disch := omega) only [go_sem, Nat.reduceAdd, Nat.reduceMul, Nat.reduceSub, Nat.reduceEqDiff, Nat.reduceLT, Nat.reduceLeDiff, reduceIte, reduceCtorEq, Int.reduceLE, Int.reduceLT, Int.reduceGE, Int.reduceGT, Int.reduceAdd, Int.reduceSub, Int.reduceMul, Int.reduceToNat, Int.reduceBEq, Int.reduceBNe, Nat.reduceBEq, Nat.reduceDiv, Nat.reduceMod, Nat.reduceBEq, Int.reduceNeg, Int.reduceToNat, Int.reduceEq, Nat.reduceLeDiff, h, nodeH]
theorem Leaf_ok (s : List UInt8) (hs : s.length ≤ 1000000) : Gf fns 15 [.str s] = some (.str (leafH s), []) := by
  have h := sha_ok (0 :: s) (by simp; omega)
  refine Gf_start rfl rfl ?_
  simp -implicitDefEqProofs (disch := omega) only [go_sem, Nat.reduceAdd, Nat.reduceMul, Nat.reduceSub, Nat.reduceEqDiff, Nat.reduceLT, Nat.reduceLeDiff, reduceIte, reduceCtorEq, Int.reduceLE, Int.reduceLT, Int.reduceGE, Int.reduceGT, Int.reduceAdd, Int.reduceSub, Int.reduceMul, Int.reduceToNat, Int.reduceBEq, Int.reduceBNe, Nat.reduceBEq, Nat.reduceDiv, Nat.reduceMod, Nat.reduceBEq, Int.reduceNeg, Int.reduceToNat, Int.reduceEq, Nat.reduceLeDiff, h, leafH]
theorem Root_ok : ∀ (m : Nat) (l : List (List UInt8)) (k : SK), l.length ≤ m → Small l → Gf fns 8 [.sl k l.length (l.map V.str)] = some (.str (mroot l), [])
  | m, l, k, hm, hs => by
    have hs1 := hs.1
    by_cases h : 2 ≤ l.length
    · have hc := cut_spec h
      match m with
      | 0 => omega
      | m + 1 =>
        have i1 := Root_ok m (l.take (cut l.length)) k (by simp; omega) (hs.take _)
        have i2 := Root_ok m (l.drop (cut l.length)) k (by simp; omega) (hs.drop _)
        have e1 : (l.take (cut l.length)).length = cut l.length := by simp; omega
        have e2 : (l.drop (cut l.length)).length = l.length - cut l.length := by simp
        rw [e1] at i1
        rw [e2] at i2
        rw [mroot_two h]
        have n1 := node_ok (mroot (l.take (cut l.length))) (mroot (l.drop (cut l.length))) (by rw [mroot_len]; omega) (by rw [mroot_len]; omega)
        have co := cut_ok l.length hs1
        generalize cut l.length = c at *
        refine Gf_start rfl rfl ?_
        simp -implicitDefEqProofs (disch := omega) only [go_sem, Nat.reduceAdd, Nat.reduceMul, Nat.reduceSub, Nat.reduceEqDiff, Nat.reduceLT, Nat.reduceLeDiff, reduceIte, reduceCtorEq, Int.reduceLE, Int.reduceLT, Int.reduceGE, Int.reduceGT, Int.reduceAdd, Int.reduceSub, Int.reduceMul, Int.reduceToNat, Int.reduceBEq, Int.reduceBNe, Nat.reduceBEq, Nat.reduceDiv, Nat.reduceMod, Nat.reduceBEq, Int.reduceNeg, Int.reduceToNat, Int.reduceEq, Nat.reduceLeDiff, co]
        refine wp_draw_E ?_
        simp -implicitDefEqProofs (disch := omega) only [go_sem, Nat.reduceAdd, Nat.reduceMul, Nat.reduceSub, Nat.reduceEqDiff, Nat.reduceLT, Nat.reduceLeDiff, reduceIte, reduceCtorEq, Int.reduceLE, Int.reduceLT, Int.reduceGE, Int.reduceGT, Int.reduceAdd, Int.reduceSub, Int.reduceMul, Int.reduceToNat, Int.reduceBEq, Int.reduceBNe, Nat.reduceBEq, Nat.reduceDiv, Nat.reduceMod, Nat.reduceBEq, Int.reduceNeg, Int.reduceToNat, Int.reduceEq, Nat.reduceLeDiff, i1, i2, n1]
    · match l, h, hs with
      | [], _, _ =>
        have h0 := sha_ok [] (by simp)
        refine Gf_start rfl rfl ?_
        simp -implicitDefEqProofs (disch := omega) only [go_sem, Nat.reduceAdd, Nat.reduceMul, Nat.reduceSub, Nat.reduceEqDiff, Nat.reduceLT, Nat.reduceLeDiff, reduceIte, reduceCtorEq, Int.reduceLE, Int.reduceLT, Int.reduceGE, Int.reduceGT, Int.reduceAdd, Int.reduceSub, Int.reduceMul, Int.reduceToNat, Int.reduceBEq, Int.reduceBNe, Nat.reduceBEq, Nat.reduceDiv, Nat.reduceMod, Nat.reduceBEq, Int.reduceNeg, Int.reduceToNat, Int.reduceEq, Nat.reduceLeDiff, h0, mroot_nil]
      | [s], _, hs =>
        have h1 := Leaf_ok s (hs.2 s (by simp))
        refine Gf_start rfl rfl ?_
        simp -implicitDefEqProofs (disch := omega) only [go_sem, Nat.reduceAdd, Nat.reduceMul, Nat.reduceSub, Nat.reduceEqDiff, Nat.reduceLT, Nat.reduceLeDiff, reduceIte, reduceCtorEq, Int.reduceLE, Int.reduceLT, Int.reduceGE, Int.reduceGT, Int.reduceAdd, Int.reduceSub, Int.reduceMul, Int.reduceToNat, Int.reduceBEq, Int.reduceBNe, Nat.reduceBEq, Nat.reduceDiv, Nat.reduceMod, Nat.reduceBEq, Int.reduceNeg, Int.reduceToNat, Int.reduceEq, Nat.reduceLeDiff, h1, mroot_one]
      | _ :: _ :: _, h, _ => simp at h
def rcutS (l : List (List UInt8)) (k : SK) (i j : Nat) (x : V) (k' : Nat) (s : St) : Prop := 0 < k' ∧ (k' < l.length ∨ k' = 1) ∧ s.t 0 = .sl k l.length (l.map V.str) ∧ s.t i = .int .i64 (k' : Int) ∧ s.t j = x ∧ cutGo l.length k' = cut l.length
theorem RRoot_ok : ∀ (m : Nat) (l : List (List UInt8)) (k : SK), l.length ≤ m → Small l → Gf fns 11 [.sl k l.length (l.map V.str)] = some (.str (mroot l), [])
  | m, l, k, hm, hs => by
    have hs1 := hs.1
    by_cases h : 2 ≤ l.length
    · have hc := cut_spec h
      match m with
      | 0 => omega
      | m + 1 =>
        have i1 := RRoot_ok m (l.take (cut l.length)) k (by simp; omega) (hs.take _)
        have i2 := RRoot_ok m (l.drop (cut l.length)) k (by simp; omega) (hs.drop _)
        have e1 : (l.take (cut l.length)).length = cut l.length := by simp; omega
        have e2 : (l.drop (cut l.length)).length = l.length - cut l.length := by simp
        rw [e1] at i1
        rw [e2] at i2
        have l1 := mroot_len (l.take (cut l.length))
        have l2 := mroot_len (l.drop (cut l.length))
        have n1 := refSha_ok (1 :: (mroot (l.take (cut l.length)) ++ mroot (l.drop (cut l.length)))) (by simp; omega)
        have e3 : sha (1 :: (mroot (l.take (cut l.length)) ++ mroot (l.drop (cut l.length)))) = mroot l := by rw [mroot_two h]; rfl
        rw [e3] at n1
        refine Gf_start rfl rfl ?_
        simp -implicitDefEqProofs (disch := omega) only [go_sem, Nat.reduceAdd, Nat.reduceMul, Nat.reduceSub, Nat.reduceEqDiff, Nat.reduceLT, Nat.reduceLeDiff, reduceIte, reduceCtorEq, Int.reduceLE, Int.reduceLT, Int.reduceGE, Int.reduceGT, Int.reduceAdd, Int.reduceSub, Int.reduceMul, Int.reduceToNat, Int.reduceBEq, Int.reduceBNe, Nat.reduceBEq, Nat.reduceDiv, Nat.reduceMod, Nat.reduceBEq, Int.reduceNeg, Int.reduceToNat, Int.reduceEq, Nat.reduceLeDiff, go_sem]
        refine wp_loopS (rcutS l k 3 2 (.str [])) (fun k' => l.length - k') 1 ⟨by omega, .inr rfl, by simp -implicitDefEqProofs (disch := omega) only [go_sem, Nat.reduceAdd, Nat.reduceMul, Nat.reduceSub, Nat.reduceEqDiff, Nat.reduceLT, Nat.reduceLeDiff, reduceIte, reduceCtorEq, Int.reduceLE, Int.reduceLT, Int.reduceGE, Int.reduceGT, Int.reduceAdd, Int.reduceSub, Int.reduceMul, Int.reduceToNat, Int.reduceBEq, Int.reduceBNe, Nat.reduceBEq, Nat.reduceDiv, Nat.reduceMod, Nat.reduceBEq, Int.reduceNeg, Int.reduceToNat, Int.reduceEq, Nat.reduceLeDiff, go_sem], by simp -implicitDefEqProofs (disch := omega) only [go_sem, Nat.reduceAdd, Nat.reduceMul, Nat.reduceSub, Nat.reduceEqDiff, Nat.reduceLT, Nat.reduceLeDiff, reduceIte, reduceCtorEq, Int.reduceLE, Int.reduceLT, Int.reduceGE, Int.reduceGT, Int.reduceAdd, Int.reduceSub, Int.reduceMul, Int.reduceToNat, Int.reduceBEq, Int.reduceBNe, Nat.reduceBEq, Nat.reduceDiv, Nat.reduceMod, Nat.reduceBEq, Int.reduceNeg, Int.reduceToNat, Int.reduceEq, Nat.reduceLeDiff, go_sem], by simp -implicitDefEqProofs (disch := omega) only [go_sem, Nat.reduceAdd, Nat.reduceMul, Nat.reduceSub, Nat.reduceEqDiff, Nat.reduceLT, Nat.reduceLeDiff, reduceIte, reduceCtorEq, Int.reduceLE, Int.reduceLT, Int.reduceGE, Int.reduceGT, Int.reduceAdd, Int.reduceSub, Int.reduceMul, Int.reduceToNat, Int.reduceBEq, Int.reduceBNe, Nat.reduceBEq, Nat.reduceDiv, Nat.reduceMod, Nat.reduceBEq, Int.reduceNeg, Int.reduceToNat, Int.reduceEq, Nat.reduceLeDiff, go_sem], rfl⟩ ?_
        rintro k' ⟨t, σ⟩ ⟨hk, hk2, h0, h3, h2, hcg⟩
        simp only at h0 h3 h2
        simp -implicitDefEqProofs (disch := omega) only [go_sem, Nat.reduceAdd, Nat.reduceMul, Nat.reduceSub, Nat.reduceEqDiff, Nat.reduceLT, Nat.reduceLeDiff, reduceIte, reduceCtorEq, Int.reduceLE, Int.reduceLT, Int.reduceGE, Int.reduceGT, Int.reduceAdd, Int.reduceSub, Int.reduceMul, Int.reduceToNat, Int.reduceBEq, Int.reduceBNe, Nat.reduceBEq, Nat.reduceDiv, Nat.reduceMod, Nat.reduceBEq, Int.reduceNeg, Int.reduceToNat, Int.reduceEq, Nat.reduceLeDiff, lp11_0, h0, h3]
        refine condC_dec (fun h => ?_) (fun h => ?_)
        · simp -implicitDefEqProofs (disch := omega) only [go_sem, Nat.reduceAdd, Nat.reduceMul, Nat.reduceSub, Nat.reduceEqDiff, Nat.reduceLT, Nat.reduceLeDiff, reduceIte, reduceCtorEq, Int.reduceLE, Int.reduceLT, Int.reduceGE, Int.reduceGT, Int.reduceAdd, Int.reduceSub, Int.reduceMul, Int.reduceToNat, Int.reduceBEq, Int.reduceBNe, Nat.reduceBEq, Nat.reduceDiv, Nat.reduceMod, Nat.reduceBEq, Int.reduceNeg, Int.reduceToNat, Int.reduceEq, Nat.reduceLeDiff, h0, h3]
          refine ⟨k' * 2, by omega, by omega, .inl (by omega), by simp -implicitDefEqProofs (disch := omega) only [go_sem, Nat.reduceAdd, Nat.reduceMul, Nat.reduceSub, Nat.reduceEqDiff, Nat.reduceLT, Nat.reduceLeDiff, reduceIte, reduceCtorEq, Int.reduceLE, Int.reduceLT, Int.reduceGE, Int.reduceGT, Int.reduceAdd, Int.reduceSub, Int.reduceMul, Int.reduceToNat, Int.reduceBEq, Int.reduceBNe, Nat.reduceBEq, Nat.reduceDiv, Nat.reduceMod, Nat.reduceBEq, Int.reduceNeg, Int.reduceToNat, Int.reduceEq, Nat.reduceLeDiff, h0], by simp -implicitDefEqProofs (disch := omega) only [go_sem, Nat.reduceAdd, Nat.reduceMul, Nat.reduceSub, Nat.reduceEqDiff, Nat.reduceLT, Nat.reduceLeDiff, reduceIte, reduceCtorEq, Int.reduceLE, Int.reduceLT, Int.reduceGE, Int.reduceGT, Int.reduceAdd, Int.reduceSub, Int.reduceMul, Int.reduceToNat, Int.reduceBEq, Int.reduceBNe, Nat.reduceBEq, Nat.reduceDiv, Nat.reduceMod, Nat.reduceBEq, Int.reduceNeg, Int.reduceToNat, Int.reduceEq, Nat.reduceLeDiff, go_sem], by simp -implicitDefEqProofs (disch := omega) only [go_sem, Nat.reduceAdd, Nat.reduceMul, Nat.reduceSub, Nat.reduceEqDiff, Nat.reduceLT, Nat.reduceLeDiff, reduceIte, reduceCtorEq, Int.reduceLE, Int.reduceLT, Int.reduceGE, Int.reduceGT, Int.reduceAdd, Int.reduceSub, Int.reduceMul, Int.reduceToNat, Int.reduceBEq, Int.reduceBNe, Nat.reduceBEq, Nat.reduceDiv, Nat.reduceMod, Nat.reduceBEq, Int.reduceNeg, Int.reduceToNat, Int.reduceEq, Nat.reduceLeDiff, h2], ?_⟩
          rw [Nat.mul_comm, ← cutGo_yes ⟨hk, by omega⟩, hcg]
        · rw [cutGo_no (by omega)] at hcg
          subst hcg
          simp -implicitDefEqProofs (disch := omega) only [go_sem, Nat.reduceAdd, Nat.reduceMul, Nat.reduceSub, Nat.reduceEqDiff, Nat.reduceLT, Nat.reduceLeDiff, reduceIte, reduceCtorEq, Int.reduceLE, Int.reduceLT, Int.reduceGE, Int.reduceGT, Int.reduceAdd, Int.reduceSub, Int.reduceMul, Int.reduceToNat, Int.reduceBEq, Int.reduceBNe, Nat.reduceBEq, Nat.reduceDiv, Nat.reduceMod, Nat.reduceBEq, Int.reduceNeg, Int.reduceToNat, Int.reduceEq, Nat.reduceLeDiff, go_sem]
          refine wp_draw_E ?_
          simp -implicitDefEqProofs (disch := omega) only [go_sem, Nat.reduceAdd, Nat.reduceMul, Nat.reduceSub, Nat.reduceEqDiff, Nat.reduceLT, Nat.reduceLeDiff, reduceIte, reduceCtorEq, Int.reduceLE, Int.reduceLT, Int.reduceGE, Int.reduceGT, Int.reduceAdd, Int.reduceSub, Int.reduceMul, Int.reduceToNat, Int.reduceBEq, Int.reduceBNe, Nat.reduceBEq, Nat.reduceDiv, Nat.reduceMod, Nat.reduceBEq, Int.reduceNeg, Int.reduceToNat, Int.reduceEq, Nat.reduceLeDiff, h0, h3, i1, i2]
          simp -implicitDefEqProofs (disch := omega) only [go_sem, Nat.reduceAdd, Nat.reduceMul, Nat.reduceSub, Nat.reduceEqDiff, Nat.reduceLT, Nat.reduceLeDiff, reduceIte, reduceCtorEq, Int.reduceLE, Int.reduceLT, Int.reduceGE, Int.reduceGT, Int.reduceAdd, Int.reduceSub, Int.reduceMul, Int.reduceToNat, Int.reduceBEq, Int.reduceBNe, Nat.reduceBEq, Nat.reduceDiv, Nat.reduceMod, Nat.reduceBEq, Int.reduceNeg, Int.reduceToNat, Int.reduceEq, Nat.reduceLeDiff, n1]
    · match l, h, hs with
      | [], _, _ =>
        have h0 := refSha_ok [] (by simp)
        refine Gf_start rfl rfl ?_
        simp -implicitDefEqProofs (disch := omega) only [go_sem, Nat.reduceAdd, Nat.reduceMul, Nat.reduceSub, Nat.reduceEqDiff, Nat.reduceLT, Nat.reduceLeDiff, reduceIte, reduceCtorEq, Int.reduceLE, Int.reduceLT, Int.reduceGE, Int.reduceGT, Int.reduceAdd, Int.reduceSub, Int.reduceMul, Int.reduceToNat, Int.reduceBEq, Int.reduceBNe, Nat.reduceBEq, Nat.reduceDiv, Nat.reduceMod, Nat.reduceBEq, Int.reduceNeg, Int.reduceToNat, Int.reduceEq, Nat.reduceLeDiff, h0, mroot_nil]
      | [s], _, hs =>
        have hl := hs.2 s (by simp)
        have h1 := refSha_ok (0 :: s) (by simp; omega)
        refine Gf_start rfl rfl ?_
        simp -implicitDefEqProofs (disch := omega) only [go_sem, Nat.reduceAdd, Nat.reduceMul, Nat.reduceSub, Nat.reduceEqDiff, Nat.reduceLT, Nat.reduceLeDiff, reduceIte, reduceCtorEq, Int.reduceLE, Int.reduceLT, Int.reduceGE, Int.reduceGT, Int.reduceAdd, Int.reduceSub, Int.reduceMul, Int.reduceToNat, Int.reduceBEq, Int.reduceBNe, Nat.reduceBEq, Nat.reduceDiv, Nat.reduceMod, Nat.reduceBEq, Int.reduceNeg, Int.reduceToNat, Int.reduceEq, Nat.reduceLeDiff, h1, mroot_one, leafH]
      | _ :: _ :: _, h, _ => simp at h
theorem Prove_ok : ∀ (m : Nat) (l : List (List UInt8)) (k : SK) (i : Nat), l.length ≤ m → i < l.length → Small l → Gf fns 9 [.sl k l.length (l.map V.str), .int .i64 (i : Int)] = some (.tup [pathV (pathR l i).reverse, .int .i64 0], [])
  | m, l, k, i, hm, hi, hs => by
    have hs1 := hs.1
    by_cases h : 2 ≤ l.length
    · have hc := cut_spec h
      match m with
      | 0 => omega
      | m + 1 =>
        have e1 : (l.take (cut l.length)).length = cut l.length := by simp; omega
        have e2 : (l.drop (cut l.length)).length = l.length - cut l.length := by simp
        have r1 := Root_ok l.length (l.take (cut l.length)) k (by simp; omega) (hs.take _)
        have r2 := Root_ok l.length (l.drop (cut l.length)) k (by simp) (hs.drop _)
        have co := cut_ok l.length hs1
        rw [e1] at r1
        rw [e2] at r2
        by_cases hlt : i < cut l.length
        · have ih := Prove_ok m (l.take (cut l.length)) k i (by simp; omega) (by omega) (hs.take _)
          have hpl := (pathR_len _ (l.take (cut l.length)) i (Nat.le_refl _)).1
          rw [e1] at ih hpl
          rw [pathR_l h hlt]
          generalize hP : pathR (l.take (cut l.length)) i = P at *
          generalize cut l.length = c at *
          refine Gf_start rfl rfl ?_
          by_cases hp : P = []
          · subst hp
            have hv : pathV ([] : List (List UInt8)).reverse = .sl .nil 0 [] := rfl
            rw [hv] at ih
            simp -implicitDefEqProofs (disch := omega) only [go_sem, Nat.reduceAdd, Nat.reduceMul, Nat.reduceSub, Nat.reduceEqDiff, Nat.reduceLT, Nat.reduceLeDiff, reduceIte, reduceCtorEq, Int.reduceLE, Int.reduceLT, Int.reduceGE, Int.reduceGT, Int.reduceAdd, Int.reduceSub, Int.reduceMul, Int.reduceToNat, Int.reduceBEq, Int.reduceBNe, Nat.reduceBEq, Nat.reduceDiv, Nat.reduceMod, Nat.reduceBEq, Int.reduceNeg, Int.reduceToNat, Int.reduceEq, Nat.reduceLeDiff, co, hlt, ih, r2, pathV, List.reverse_nil, List.reverse_cons]
          · have hp2 : ¬ P.length = 0 := by simpa using hp
            have hv : pathV P.reverse = .osl 1 P.length (P.reverse.map V.str) := by simp [pathV, hp]
            rw [hv] at ih
            have hv2 : pathV (mroot (l.drop c) :: P).reverse = .osl 1 (P.length + 1) ((P.reverse ++ [mroot (l.drop c)]).map V.str) := by simp [pathV]
            rw [hv2]
            have hr1 : P.reverse.length = P.length := List.length_reverse
            have hr2 : (P.reverse ++ [mroot (l.drop c)]).length = P.length + 1 := by simp
            simp -implicitDefEqProofs (disch := omega) only [go_sem, Nat.reduceAdd, Nat.reduceMul, Nat.reduceSub, Nat.reduceEqDiff, Nat.reduceLT, Nat.reduceLeDiff, reduceIte, reduceCtorEq, Int.reduceLE, Int.reduceLT, Int.reduceGE, Int.reduceGT, Int.reduceAdd, Int.reduceSub, Int.reduceMul, Int.reduceToNat, Int.reduceBEq, Int.reduceBNe, Nat.reduceBEq, Nat.reduceDiv, Nat.reduceMod, Nat.reduceBEq, Int.reduceNeg, Int.reduceToNat, Int.reduceEq, Nat.reduceLeDiff, co, hlt, ih, r2, hp2, List.length_reverse]
        · have ih := Prove_ok m (l.drop (cut l.length)) k (i - cut l.length) (by simp; omega) (by simp; omega) (hs.drop _)
          have hpl := (pathR_len _ (l.drop (cut l.length)) (i - cut l.length) (Nat.le_refl _)).1
          rw [e2] at ih hpl
          rw [pathR_r h hlt]
          generalize hP : pathR (l.drop (cut l.length)) (i - cut l.length) = P at *
          generalize cut l.length = c at *
          refine Gf_start rfl rfl ?_
          by_cases hp : P = []
          · subst hp
            have hv : pathV ([] : List (List UInt8)).reverse = .sl .nil 0 [] := rfl
            rw [hv] at ih
            simp -implicitDefEqProofs (disch := omega) only [go_sem, Nat.reduceAdd, Nat.reduceMul, Nat.reduceSub, Nat.reduceEqDiff, Nat.reduceLT, Nat.reduceLeDiff, reduceIte, reduceCtorEq, Int.reduceLE, Int.reduceLT, Int.reduceGE, Int.reduceGT, Int.reduceAdd, Int.reduceSub, Int.reduceMul, Int.reduceToNat, Int.reduceBEq, Int.reduceBNe, Nat.reduceBEq, Nat.reduceDiv, Nat.reduceMod, Nat.reduceBEq, Int.reduceNeg, Int.reduceToNat, Int.reduceEq, Nat.reduceLeDiff, co, hlt, ih, r1, pathV, List.reverse_nil, List.reverse_cons]
          · have hp2 : ¬ P.length = 0 := by simpa using hp
            have hv : pathV P.reverse = .osl 1 P.length (P.reverse.map V.str) := by simp [pathV, hp]
            rw [hv] at ih
            have hv2 : pathV (mroot (l.take c) :: P).reverse = .osl 1 (P.length + 1) ((P.reverse ++ [mroot (l.take c)]).map V.str) := by simp [pathV]
            rw [hv2]
            have hr1 : P.reverse.length = P.length := List.length_reverse
            have hr2 : (P.reverse ++ [mroot (l.take c)]).length = P.length + 1 := by simp
            simp -implicitDefEqProofs (disch := omega) only [go_sem, Nat.reduceAdd, Nat.reduceMul, Nat.reduceSub, Nat.reduceEqDiff, Nat.reduceLT, Nat.reduceLeDiff, reduceIte, reduceCtorEq, Int.reduceLE, Int.reduceLT, Int.reduceGE, Int.reduceGT, Int.reduceAdd, Int.reduceSub, Int.reduceMul, Int.reduceToNat, Int.reduceBEq, Int.reduceBNe, Nat.reduceBEq, Nat.reduceDiv, Nat.reduceMod, Nat.reduceBEq, Int.reduceNeg, Int.reduceToNat, Int.reduceEq, Nat.reduceLeDiff, co, hlt, ih, r1, hp2, List.length_reverse]
    · have h1 : l.length = 1 := by omega
      rw [pathR_no h]
      refine Gf_start rfl rfl ?_
      simp -implicitDefEqProofs (disch := omega) only [go_sem, Nat.reduceAdd, Nat.reduceMul, Nat.reduceSub, Nat.reduceEqDiff, Nat.reduceLT, Nat.reduceLeDiff, reduceIte, reduceCtorEq, Int.reduceLE, Int.reduceLT, Int.reduceGE, Int.reduceGT, Int.reduceAdd, Int.reduceSub, Int.reduceMul, Int.reduceToNat, Int.reduceBEq, Int.reduceBNe, Nat.reduceBEq, Nat.reduceDiv, Nat.reduceMod, Nat.reduceBEq, Int.reduceNeg, Int.reduceToNat, Int.reduceEq, Nat.reduceLeDiff, h1, pathV, List.reverse_nil]
theorem ProveNo_ok (l : List (List UInt8)) (k : SK) (i : Int) (hi : i < 0 ∨ (l.length : Int) ≤ i) : Gf fns 9 [.sl k l.length (l.map V.str), .int .i64 i] = some (.tup [.sl .nil 0 [], .int .i64 1], []) := by
  refine Gf_start rfl rfl ?_
  by_cases h : i < 0
  · simp -implicitDefEqProofs (disch := omega) only [go_sem, Nat.reduceAdd, Nat.reduceMul, Nat.reduceSub, Nat.reduceEqDiff, Nat.reduceLT, Nat.reduceLeDiff, reduceIte, reduceCtorEq, Int.reduceLE, Int.reduceLT, Int.reduceGE, Int.reduceGT, Int.reduceAdd, Int.reduceSub, Int.reduceMul, Int.reduceToNat, Int.reduceBEq, Int.reduceBNe, Nat.reduceBEq, Nat.reduceDiv, Nat.reduceMod, Nat.reduceBEq, Int.reduceNeg, Int.reduceToNat, Int.reduceEq, Nat.reduceLeDiff, h]
  · simp -implicitDefEqProofs (disch := omega) only [go_sem, Nat.reduceAdd, Nat.reduceMul, Nat.reduceSub, Nat.reduceEqDiff, Nat.reduceLT, Nat.reduceLeDiff, reduceIte, reduceCtorEq, Int.reduceLE, Int.reduceLT, Int.reduceGE, Int.reduceGT, Int.reduceAdd, Int.reduceSub, Int.reduceMul, Int.reduceToNat, Int.reduceBEq, Int.reduceBNe, Nat.reduceBEq, Nat.reduceDiv, Nat.reduceMod, Nat.reduceBEq, Int.reduceNeg, Int.reduceToNat, Int.reduceEq, Nat.reduceLeDiff, h]
theorem snoc_reverse (P : List (List UInt8)) (x : List UInt8) : (x :: P).reverse = P.reverse ++ [x] := by simp
def rpathS (l : List (List UInt8)) (k : SK) (i : Nat) (k' : Nat) (s : St) : Prop := 0 < k' ∧ (k' < l.length ∨ k' = 1) ∧ s.t 0 = .sl k l.length (l.map V.str) ∧ s.t 1 = .int .i64 (i : Int) ∧ s.t 5 = .int .i64 (k' : Int) ∧ cutGo l.length k' = cut l.length
theorem Path_ok : ∀ (m : Nat) (l : List (List UInt8)) (k : SK) (i : Nat), l.length ≤ m → i < l.length → Small l → Gf fns 14 [.sl k l.length (l.map V.str), .int .i64 (i : Int)] = some (.osl 1 (pathR l i).length ((pathR l i).reverse.map V.str), [])
  | m, l, k, i, hm, hi, hs => by
    have hs1 := hs.1
    by_cases h : 2 ≤ l.length
    · have hc := cut_spec h
      match m with
      | 0 => omega
      | m + 1 =>
        have e1 : (l.take (cut l.length)).length = cut l.length := by simp; omega
        have e2 : (l.drop (cut l.length)).length = l.length - cut l.length := by simp
        have r1 := RRoot_ok l.length (l.take (cut l.length)) k (by simp; omega) (hs.take _)
        have r2 := RRoot_ok l.length (l.drop (cut l.length)) k (by simp) (hs.drop _)
        rw [e1] at r1
        rw [e2] at r2
        refine Gf_start rfl rfl ?_
        simp -implicitDefEqProofs (disch := omega) only [go_sem, Nat.reduceAdd, Nat.reduceMul, Nat.reduceSub, Nat.reduceEqDiff, Nat.reduceLT, Nat.reduceLeDiff, reduceIte, reduceCtorEq, Int.reduceLE, Int.reduceLT, Int.reduceGE, Int.reduceGT, Int.reduceAdd, Int.reduceSub, Int.reduceMul, Int.reduceToNat, Int.reduceBEq, Int.reduceBNe, Nat.reduceBEq, Nat.reduceDiv, Nat.reduceMod, Nat.reduceBEq, Int.reduceNeg, Int.reduceToNat, Int.reduceEq, Nat.reduceLeDiff, h]
        refine wp_loopS (rpathS l k i) (fun k' => l.length - k') 1 ⟨by omega, .inr rfl, by simp -implicitDefEqProofs (disch := omega) only [go_sem, Nat.reduceAdd, Nat.reduceMul, Nat.reduceSub, Nat.reduceEqDiff, Nat.reduceLT, Nat.reduceLeDiff, reduceIte, reduceCtorEq, Int.reduceLE, Int.reduceLT, Int.reduceGE, Int.reduceGT, Int.reduceAdd, Int.reduceSub, Int.reduceMul, Int.reduceToNat, Int.reduceBEq, Int.reduceBNe, Nat.reduceBEq, Nat.reduceDiv, Nat.reduceMod, Nat.reduceBEq, Int.reduceNeg, Int.reduceToNat, Int.reduceEq, Nat.reduceLeDiff, go_sem], by simp -implicitDefEqProofs (disch := omega) only [go_sem, Nat.reduceAdd, Nat.reduceMul, Nat.reduceSub, Nat.reduceEqDiff, Nat.reduceLT, Nat.reduceLeDiff, reduceIte, reduceCtorEq, Int.reduceLE, Int.reduceLT, Int.reduceGE, Int.reduceGT, Int.reduceAdd, Int.reduceSub, Int.reduceMul, Int.reduceToNat, Int.reduceBEq, Int.reduceBNe, Nat.reduceBEq, Nat.reduceDiv, Nat.reduceMod, Nat.reduceBEq, Int.reduceNeg, Int.reduceToNat, Int.reduceEq, Nat.reduceLeDiff, go_sem], by simp -implicitDefEqProofs (disch := omega) only [go_sem, Nat.reduceAdd, Nat.reduceMul, Nat.reduceSub, Nat.reduceEqDiff, Nat.reduceLT, Nat.reduceLeDiff, reduceIte, reduceCtorEq, Int.reduceLE, Int.reduceLT, Int.reduceGE, Int.reduceGT, Int.reduceAdd, Int.reduceSub, Int.reduceMul, Int.reduceToNat, Int.reduceBEq, Int.reduceBNe, Nat.reduceBEq, Nat.reduceDiv, Nat.reduceMod, Nat.reduceBEq, Int.reduceNeg, Int.reduceToNat, Int.reduceEq, Nat.reduceLeDiff, go_sem], rfl⟩ ?_
        rintro k' ⟨t, σ⟩ ⟨hk, hk2, h0, h1, h5, hcg⟩
        simp only at h0 h1 h5
        simp -implicitDefEqProofs (disch := omega) only [go_sem, Nat.reduceAdd, Nat.reduceMul, Nat.reduceSub, Nat.reduceEqDiff, Nat.reduceLT, Nat.reduceLeDiff, reduceIte, reduceCtorEq, Int.reduceLE, Int.reduceLT, Int.reduceGE, Int.reduceGT, Int.reduceAdd, Int.reduceSub, Int.reduceMul, Int.reduceToNat, Int.reduceBEq, Int.reduceBNe, Nat.reduceBEq, Nat.reduceDiv, Nat.reduceMod, Nat.reduceBEq, Int.reduceNeg, Int.reduceToNat, Int.reduceEq, Nat.reduceLeDiff, lp14_0, h0, h5]
        refine condC_dec (fun h => ?_) (fun h => ?_)
        · simp -implicitDefEqProofs (disch := omega) only [go_sem, Nat.reduceAdd, Nat.reduceMul, Nat.reduceSub, Nat.reduceEqDiff, Nat.reduceLT, Nat.reduceLeDiff, reduceIte, reduceCtorEq, Int.reduceLE, Int.reduceLT, Int.reduceGE, Int.reduceGT, Int.reduceAdd, Int.reduceSub, Int.reduceMul, Int.reduceToNat, Int.reduceBEq, Int.reduceBNe, Nat.reduceBEq, Nat.reduceDiv, Nat.reduceMod, Nat.reduceBEq, Int.reduceNeg, Int.reduceToNat, Int.reduceEq, Nat.reduceLeDiff, h0, h5]
          refine ⟨k' * 2, by omega, by omega, .inl (by omega), by simp -implicitDefEqProofs (disch := omega) only [go_sem, Nat.reduceAdd, Nat.reduceMul, Nat.reduceSub, Nat.reduceEqDiff, Nat.reduceLT, Nat.reduceLeDiff, reduceIte, reduceCtorEq, Int.reduceLE, Int.reduceLT, Int.reduceGE, Int.reduceGT, Int.reduceAdd, Int.reduceSub, Int.reduceMul, Int.reduceToNat, Int.reduceBEq, Int.reduceBNe, Nat.reduceBEq, Nat.reduceDiv, Nat.reduceMod, Nat.reduceBEq, Int.reduceNeg, Int.reduceToNat, Int.reduceEq, Nat.reduceLeDiff, h0], by simp -implicitDefEqProofs (disch := omega) only [go_sem, Nat.reduceAdd, Nat.reduceMul, Nat.reduceSub, Nat.reduceEqDiff, Nat.reduceLT, Nat.reduceLeDiff, reduceIte, reduceCtorEq, Int.reduceLE, Int.reduceLT, Int.reduceGE, Int.reduceGT, Int.reduceAdd, Int.reduceSub, Int.reduceMul, Int.reduceToNat, Int.reduceBEq, Int.reduceBNe, Nat.reduceBEq, Nat.reduceDiv, Nat.reduceMod, Nat.reduceBEq, Int.reduceNeg, Int.reduceToNat, Int.reduceEq, Nat.reduceLeDiff, h1], by simp -implicitDefEqProofs (disch := omega) only [go_sem, Nat.reduceAdd, Nat.reduceMul, Nat.reduceSub, Nat.reduceEqDiff, Nat.reduceLT, Nat.reduceLeDiff, reduceIte, reduceCtorEq, Int.reduceLE, Int.reduceLT, Int.reduceGE, Int.reduceGT, Int.reduceAdd, Int.reduceSub, Int.reduceMul, Int.reduceToNat, Int.reduceBEq, Int.reduceBNe, Nat.reduceBEq, Nat.reduceDiv, Nat.reduceMod, Nat.reduceBEq, Int.reduceNeg, Int.reduceToNat, Int.reduceEq, Nat.reduceLeDiff, go_sem], ?_⟩
          rw [Nat.mul_comm, ← cutGo_yes ⟨hk, by omega⟩, hcg]
        · rw [cutGo_no (by omega)] at hcg
          subst hcg
          by_cases hlt : i < cut l.length
          · have ih := Path_ok m (l.take (cut l.length)) k i (by simp; omega) (by omega) (hs.take _)
            have hpl := (pathR_len _ (l.take (cut l.length)) i (Nat.le_refl _)).1
            rw [e1] at ih hpl
            rw [pathR_l (by omega) hlt, snoc_reverse]
            generalize hP : pathR (l.take (cut l.length)) i = P at *
            generalize cut l.length = c at *
            have hr1 : P.reverse.length = P.length := List.length_reverse
            have hr2 : (P.reverse ++ [mroot (l.drop c)]).length = P.length + 1 := by simp
            simp -implicitDefEqProofs (disch := omega) only [go_sem, Nat.reduceAdd, Nat.reduceMul, Nat.reduceSub, Nat.reduceEqDiff, Nat.reduceLT, Nat.reduceLeDiff, reduceIte, reduceCtorEq, Int.reduceLE, Int.reduceLT, Int.reduceGE, Int.reduceGT, Int.reduceAdd, Int.reduceSub, Int.reduceMul, Int.reduceToNat, Int.reduceBEq, Int.reduceBNe, Nat.reduceBEq, Nat.reduceDiv, Nat.reduceMod, Nat.reduceBEq, Int.reduceNeg, Int.reduceToNat, Int.reduceEq, Nat.reduceLeDiff, h0, h1, h5, hlt]
            refine wp_draw_E ?_
            simp -implicitDefEqProofs (disch := omega) only [go_sem, Nat.reduceAdd, Nat.reduceMul, Nat.reduceSub, Nat.reduceEqDiff, Nat.reduceLT, Nat.reduceLeDiff, reduceIte, reduceCtorEq, Int.reduceLE, Int.reduceLT, Int.reduceGE, Int.reduceGT, Int.reduceAdd, Int.reduceSub, Int.reduceMul, Int.reduceToNat, Int.reduceBEq, Int.reduceBNe, Nat.reduceBEq, Nat.reduceDiv, Nat.reduceMod, Nat.reduceBEq, Int.reduceNeg, Int.reduceToNat, Int.reduceEq, Nat.reduceLeDiff, h0, h1, h5, ih, r2, List.length_reverse]
            trace_state
          · have ih := Path_ok m (l.drop (cut l.length)) k (i - cut l.length) (by simp; omega) (by simp; omega) (hs.drop _)
            have hpl := (pathR_len _ (l.drop (cut l.length)) (i - cut l.length) (Nat.le_refl _)).1
            rw [e2] at ih hpl
            rw [pathR_r (by omega) hlt, snoc_reverse]
            generalize hP : pathR (l.drop (cut l.length)) (i - cut l.length) = P at *
            generalize cut l.length = c at *
            have hr1 : P.reverse.length = P.length := List.length_reverse
            have hr2 : (P.reverse ++ [mroot (l.take c)]).length = P.length + 1 := by simp
            simp -implicitDefEqProofs (disch := omega) only [go_sem, Nat.reduceAdd, Nat.reduceMul, Nat.reduceSub, Nat.reduceEqDiff, Nat.reduceLT, Nat.reduceLeDiff, reduceIte, reduceCtorEq, Int.reduceLE, Int.reduceLT, Int.reduceGE, Int.reduceGT, Int.reduceAdd, Int.reduceSub, Int.reduceMul, Int.reduceToNat, Int.reduceBEq, Int.reduceBNe, Nat.reduceBEq, Nat.reduceDiv, Nat.reduceMod, Nat.reduceBEq, Int.reduceNeg, Int.reduceToNat, Int.reduceEq, Nat.reduceLeDiff, h0, h1, h5, hlt]
            refine wp_draw_E ?_
            simp -implicitDefEqProofs (disch := omega) only [go_sem, Nat.reduceAdd, Nat.reduceMul, Nat.reduceSub, Nat.reduceEqDiff, Nat.reduceLT, Nat.reduceLeDiff, reduceIte, reduceCtorEq, Int.reduceLE, Int.reduceLT, Int.reduceGE, Int.reduceGT, Int.reduceAdd, Int.reduceSub, Int.reduceMul, Int.reduceToNat, Int.reduceBEq, Int.reduceBNe, Nat.reduceBEq, Nat.reduceDiv, Nat.reduceMod, Nat.reduceBEq, Int.reduceNeg, Int.reduceToNat, Int.reduceEq, Nat.reduceLeDiff, h0, h1, h5, ih, r1, List.length_reverse]
    · have h1 : l.length = 1 := by omega
      rw [pathR_no h]
      refine Gf_start rfl rfl ?_
      simp -implicitDefEqProofs (disch := omega) only [go_sem, Nat.reduceAdd, Nat.reduceMul, Nat.reduceSub, Nat.reduceEqDiff, Nat.reduceLT, Nat.reduceLeDiff, reduceIte, reduceCtorEq, Int.reduceLE, Int.reduceLT, Int.reduceGE, Int.reduceGT, Int.reduceAdd, Int.reduceSub, Int.reduceMul, Int.reduceToNat, Int.reduceBEq, Int.reduceBNe, Nat.reduceBEq, Nat.reduceDiv, Nat.reduceMod, Nat.reduceBEq, Int.reduceNeg, Int.reduceToNat, Int.reduceEq, Nat.reduceLeDiff, h1, List.reverse_nil]
theorem fold_ok : ∀ (P : List (List UInt8)) (leaf : List UInt8) (i n : Nat) (k : SK), i < n → n ≤ 1000000 → Small P.reverse → leaf.length = 32 → (foldR leaf i n P).1.length ≤ 32 ∧ Gf fns 22 [.str leaf, .int .i64 (i : Int), .int .i64 (n : Int), .sl k P.length (P.reverse.map V.str)] = some (.tup [.str (foldR leaf i n P).1, .bool (foldR leaf i n P).2], [])
  | [], leaf, i, n, k, hi, hn, hs, hl => by
    by_cases h : n = 1
    · rw [foldR, if_pos h]
      refine ⟨by simp [hl], ?_⟩
      refine Gf_start rfl rfl ?_
      simp -implicitDefEqProofs (disch := omega) only [go_sem, Nat.reduceAdd, Nat.reduceMul, Nat.reduceSub, Nat.reduceEqDiff, Nat.reduceLT, Nat.reduceLeDiff, reduceIte, reduceCtorEq, Int.reduceLE, Int.reduceLT, Int.reduceGE, Int.reduceGT, Int.reduceAdd, Int.reduceSub, Int.reduceMul, Int.reduceToNat, Int.reduceBEq, Int.reduceBNe, Nat.reduceBEq, Nat.reduceDiv, Nat.reduceMod, Nat.reduceBEq, Int.reduceNeg, Int.reduceToNat, Int.reduceEq, Nat.reduceLeDiff, h, List.reverse_nil]
    · rw [foldR, if_neg h]
      refine ⟨by simp, ?_⟩
      refine Gf_start rfl rfl ?_
      simp -implicitDefEqProofs (disch := omega) only [go_sem, Nat.reduceAdd, Nat.reduceMul, Nat.reduceSub, Nat.reduceEqDiff, Nat.reduceLT, Nat.reduceLeDiff, reduceIte, reduceCtorEq, Int.reduceLE, Int.reduceLT, Int.reduceGE, Int.reduceGT, Int.reduceAdd, Int.reduceSub, Int.reduceMul, Int.reduceToNat, Int.reduceBEq, Int.reduceBNe, Nat.reduceBEq, Nat.reduceDiv, Nat.reduceMod, Nat.reduceBEq, Int.reduceNeg, Int.reduceToNat, Int.reduceEq, Nat.reduceLeDiff, h, List.reverse_nil]
  | top :: r, leaf, i, n, k, hi, hn, hs, hl => by
    have hr1 : r.reverse.length = r.length := List.length_reverse
    have hr2 : (r.reverse ++ [top]).length = r.length + 1 := by simp
    have hr3 : gt (r.reverse ++ [top]) r.length = top := gt_mid hr1.symm
    have hr4 : (r.reverse ++ [top]).take r.length = r.reverse := by rw [← hr1, List.take_left']; rfl
    rw [snoc_reverse] at hs
    have hs1 := hs.1
    have hsr : Small r.reverse := by have := hs.take r.length; rw [hr4] at this; exact this
    have htop := hs.2 top (by simp)
    by_cases h : n = 1
    · rw [foldR, if_pos h]
      refine ⟨by simp [hl], ?_⟩
      refine Gf_start rfl rfl ?_
      simp -implicitDefEqProofs (disch := omega) only [go_sem, Nat.reduceAdd, Nat.reduceMul, Nat.reduceSub, Nat.reduceEqDiff, Nat.reduceLT, Nat.reduceLeDiff, reduceIte, reduceCtorEq, Int.reduceLE, Int.reduceLT, Int.reduceGE, Int.reduceGT, Int.reduceAdd, Int.reduceSub, Int.reduceMul, Int.reduceToNat, Int.reduceBEq, Int.reduceBNe, Nat.reduceBEq, Nat.reduceDiv, Nat.reduceMod, Nat.reduceBEq, Int.reduceNeg, Int.reduceToNat, Int.reduceEq, Nat.reduceLeDiff, h, List.reverse_cons]
    · have hc := cut_spec (n := n) (by omega)
      have co := cut_ok n hn
      by_cases hlt : i < cut n
      · obtain ⟨ih1, ih2⟩ := fold_ok r leaf i (cut n) k hlt (by omega) hsr hl
        have n1 := node_ok (foldR leaf i (cut n) r).1 top (by omega) htop
        rw [foldR, if_neg h, if_pos hlt]
        refine ⟨by rw [nodeH_len]; omega, ?_⟩
        generalize cut n = c at *
        refine Gf_start rfl rfl ?_
        simp -implicitDefEqProofs (disch := omega) only [go_sem, Nat.reduceAdd, Nat.reduceMul, Nat.reduceSub, Nat.reduceEqDiff, Nat.reduceLT, Nat.reduceLeDiff, reduceIte, reduceCtorEq, Int.reduceLE, Int.reduceLT, Int.reduceGE, Int.reduceGT, Int.reduceAdd, Int.reduceSub, Int.reduceMul, Int.reduceToNat, Int.reduceBEq, Int.reduceBNe, Nat.reduceBEq, Nat.reduceDiv, Nat.reduceMod, Nat.reduceBEq, Int.reduceNeg, Int.reduceToNat, Int.reduceEq, Nat.reduceLeDiff, h, List.reverse_cons]
        refine wp_draw_E ?_
        simp -implicitDefEqProofs (disch := omega) only [go_sem, Nat.reduceAdd, Nat.reduceMul, Nat.reduceSub, Nat.reduceEqDiff, Nat.reduceLT, Nat.reduceLeDiff, reduceIte, reduceCtorEq, Int.reduceLE, Int.reduceLT, Int.reduceGE, Int.reduceGT, Int.reduceAdd, Int.reduceSub, Int.reduceMul, Int.reduceToNat, Int.reduceBEq, Int.reduceBNe, Nat.reduceBEq, Nat.reduceDiv, Nat.reduceMod, Nat.reduceBEq, Int.reduceNeg, Int.reduceToNat, Int.reduceEq, Nat.reduceLeDiff, co, hr3, hr4, hlt, ih2, n1, Nat.add_sub_cancel]
      · obtain ⟨ih1, ih2⟩ := fold_ok r leaf (i - cut n) (n - cut n) k (by omega) (by omega) hsr hl
        have n1 := node_ok top (foldR leaf (i - cut n) (n - cut n) r).1 htop (by omega)
        rw [foldR, if_neg h, if_neg hlt]
        refine ⟨by rw [nodeH_len]; omega, ?_⟩
        generalize cut n = c at *
        refine Gf_start rfl rfl ?_
        simp -implicitDefEqProofs (disch := omega) only [go_sem, Nat.reduceAdd, Nat.reduceMul, Nat.reduceSub, Nat.reduceEqDiff, Nat.reduceLT, Nat.reduceLeDiff, reduceIte, reduceCtorEq, Int.reduceLE, Int.reduceLT, Int.reduceGE, Int.reduceGT, Int.reduceAdd, Int.reduceSub, Int.reduceMul, Int.reduceToNat, Int.reduceBEq, Int.reduceBNe, Nat.reduceBEq, Nat.reduceDiv, Nat.reduceMod, Nat.reduceBEq, Int.reduceNeg, Int.reduceToNat, Int.reduceEq, Nat.reduceLeDiff, h, List.reverse_cons]
        refine wp_draw_E ?_
        simp -implicitDefEqProofs (disch := omega) only [go_sem, Nat.reduceAdd, Nat.reduceMul, Nat.reduceSub, Nat.reduceEqDiff, Nat.reduceLT, Nat.reduceLeDiff, reduceIte, reduceCtorEq, Int.reduceLE, Int.reduceLT, Int.reduceGE, Int.reduceGT, Int.reduceAdd, Int.reduceSub, Int.reduceMul, Int.reduceToNat, Int.reduceBEq, Int.reduceBNe, Nat.reduceBEq, Nat.reduceDiv, Nat.reduceMod, Nat.reduceBEq, Int.reduceNeg, Int.reduceToNat, Int.reduceEq, Nat.reduceLeDiff, co, hr3, hr4, hlt, ih2, n1, Nat.add_sub_cancel]
/-- Does a way up show a thing at a place? (the way from the bottom up) -/
def verifyB (root s : List UInt8) (i n : Nat) (p : List (List UInt8)) : Bool := (p.all fun h => decide (h.length = 32)) && ((foldR (leafH s) i n p.reverse).2 && decide ((foldR (leafH s) i n p.reverse).1 = root))
def verI (root s : List UInt8) (i n : Nat) (k : SK) (p : List (List UInt8)) (j : Nat) (st : St) : Prop :=
  j ≤ p.length ∧ st.t 0 = .str root ∧ st.t 1 = .str s ∧ st.t 2 = .int .i64 (i : Int) ∧ st.t 3 = .int .i64 (n : Int) ∧ st.t 4 = .sl k p.length (p.map V.str) ∧ st.t 22 = .sl k p.length (p.map V.str) ∧ st.t 23 = .int .i64 (p.length : Int) ∧ st.t 24 = .int .i64 (j : Int) ∧ ∀ a, a < j → (gt p a).length = 32
theorem Verify_ok (root s : List UInt8) (i n : Nat) (k : SK) (p : List (List UInt8)) (hi : i < n) (hn : n ≤ 1000000) (hp : p.length ≤ 1000000) (hs : s.length ≤ 1000000) :
    Gf fns 12 [.str root, .str s, .int .i64 (i : Int), .int .i64 (n : Int), .sl k p.length (p.map V.str)] = some (.bool (verifyB root s i n p), []) := by
  refine Gf_start rfl rfl ?_
  simp -implicitDefEqProofs (disch := omega) only [go_sem, Nat.reduceAdd, Nat.reduceMul, Nat.reduceSub, Nat.reduceEqDiff, Nat.reduceLT, Nat.reduceLeDiff, reduceIte, reduceCtorEq, Int.reduceLE, Int.reduceLT, Int.reduceGE, Int.reduceGT, Int.reduceAdd, Int.reduceSub, Int.reduceMul, Int.reduceToNat, Int.reduceBEq, Int.reduceBNe, Nat.reduceBEq, Nat.reduceDiv, Nat.reduceMod, Nat.reduceBEq, Int.reduceNeg, Int.reduceToNat, Int.reduceEq, Nat.reduceLeDiff, go_sem]
  refine wp_loopS (verI root s i n k p) (fun j => p.length - j) 0 ⟨by omega, by simp -implicitDefEqProofs (disch := omega) only [go_sem, Nat.reduceAdd, Nat.reduceMul, Nat.reduceSub, Nat.reduceEqDiff, Nat.reduceLT, Nat.reduceLeDiff, reduceIte, reduceCtorEq, Int.reduceLE, Int.reduceLT, Int.reduceGE, Int.reduceGT, Int.reduceAdd, Int.reduceSub, Int.reduceMul, Int.reduceToNat, Int.reduceBEq, Int.reduceBNe, Nat.reduceBEq, Nat.reduceDiv, Nat.reduceMod, Nat.reduceBEq, Int.reduceNeg, Int.reduceToNat, Int.reduceEq, Nat.reduceLeDiff, go_sem], by simp -implicitDefEqProofs (disch := omega) only [go_sem, Nat.reduceAdd, Nat.reduceMul, Nat.reduceSub, Nat.reduceEqDiff, Nat.reduceLT, Nat.reduceLeDiff, reduceIte, reduceCtorEq, Int.reduceLE, Int.reduceLT, Int.reduceGE, Int.reduceGT, Int.reduceAdd, Int.reduceSub, Int.reduceMul, Int.reduceToNat, Int.reduceBEq, Int.reduceBNe, Nat.reduceBEq, Nat.reduceDiv, Nat.reduceMod, Nat.reduceBEq, Int.reduceNeg, Int.reduceToNat, Int.reduceEq, Nat.reduceLeDiff, go_sem], by simp -implicitDefEqProofs (disch := omega) only [go_sem, Nat.reduceAdd, Nat.reduceMul, Nat.reduceSub, Nat.reduceEqDiff, Nat.reduceLT, Nat.reduceLeDiff, reduceIte, reduceCtorEq, Int.reduceLE, Int.reduceLT, Int.reduceGE, Int.reduceGT, Int.reduceAdd, Int.reduceSub, Int.reduceMul, Int.reduceToNat, Int.reduceBEq, Int.reduceBNe, Nat.reduceBEq, Nat.reduceDiv, Nat.reduceMod, Nat.reduceBEq, Int.reduceNeg, Int.reduceToNat, Int.reduceEq, Nat.reduceLeDiff, go_sem], by simp -implicitDefEqProofs (disch := omega) only [go_sem, Nat.reduceAdd, Nat.reduceMul, Nat.reduceSub, Nat.reduceEqDiff, Nat.reduceLT, Nat.reduceLeDiff, reduceIte, reduceCtorEq, Int.reduceLE, Int.reduceLT, Int.reduceGE, Int.reduceGT, Int.reduceAdd, Int.reduceSub, Int.reduceMul, Int.reduceToNat, Int.reduceBEq, Int.reduceBNe, Nat.reduceBEq, Nat.reduceDiv, Nat.reduceMod, Nat.reduceBEq, Int.reduceNeg, Int.reduceToNat, Int.reduceEq, Nat.reduceLeDiff, go_sem], by simp -implicitDefEqProofs (disch := omega) only [go_sem, Nat.reduceAdd, Nat.reduceMul, Nat.reduceSub, Nat.reduceEqDiff, Nat.reduceLT, Nat.reduceLeDiff, reduceIte, reduceCtorEq, Int.reduceLE, Int.reduceLT, Int.reduceGE, Int.reduceGT, Int.reduceAdd, Int.reduceSub, Int.reduceMul, Int.reduceToNat, Int.reduceBEq, Int.reduceBNe, Nat.reduceBEq, Nat.reduceDiv, Nat.reduceMod, Nat.reduceBEq, Int.reduceNeg, Int.reduceToNat, Int.reduceEq, Nat.reduceLeDiff, go_sem], by simp -implicitDefEqProofs (disch := omega) only [go_sem, Nat.reduceAdd, Nat.reduceMul, Nat.reduceSub, Nat.reduceEqDiff, Nat.reduceLT, Nat.reduceLeDiff, reduceIte, reduceCtorEq, Int.reduceLE, Int.reduceLT, Int.reduceGE, Int.reduceGT, Int.reduceAdd, Int.reduceSub, Int.reduceMul, Int.reduceToNat, Int.reduceBEq, Int.reduceBNe, Nat.reduceBEq, Nat.reduceDiv, Nat.reduceMod, Nat.reduceBEq, Int.reduceNeg, Int.reduceToNat, Int.reduceEq, Nat.reduceLeDiff, go_sem], by simp -implicitDefEqProofs (disch := omega) only [go_sem, Nat.reduceAdd, Nat.reduceMul, Nat.reduceSub, Nat.reduceEqDiff, Nat.reduceLT, Nat.reduceLeDiff, reduceIte, reduceCtorEq, Int.reduceLE, Int.reduceLT, Int.reduceGE, Int.reduceGT, Int.reduceAdd, Int.reduceSub, Int.reduceMul, Int.reduceToNat, Int.reduceBEq, Int.reduceBNe, Nat.reduceBEq, Nat.reduceDiv, Nat.reduceMod, Nat.reduceBEq, Int.reduceNeg, Int.reduceToNat, Int.reduceEq, Nat.reduceLeDiff, go_sem], by simp -implicitDefEqProofs (disch := omega) only [go_sem, Nat.reduceAdd, Nat.reduceMul, Nat.reduceSub, Nat.reduceEqDiff, Nat.reduceLT, Nat.reduceLeDiff, reduceIte, reduceCtorEq, Int.reduceLE, Int.reduceLT, Int.reduceGE, Int.reduceGT, Int.reduceAdd, Int.reduceSub, Int.reduceMul, Int.reduceToNat, Int.reduceBEq, Int.reduceBNe, Nat.reduceBEq, Nat.reduceDiv, Nat.reduceMod, Nat.reduceBEq, Int.reduceNeg, Int.reduceToNat, Int.reduceEq, Nat.reduceLeDiff, go_sem], by omega⟩ ?_
  rintro j ⟨t, σ⟩ ⟨hj, h0, h1, h2, h3, h4, h22, h23, h24, hall⟩
  simp only at h0 h1 h2 h3 h4 h22 h23 h24
  simp -implicitDefEqProofs (disch := omega) only [go_sem, Nat.reduceAdd, Nat.reduceMul, Nat.reduceSub, Nat.reduceEqDiff, Nat.reduceLT, Nat.reduceLeDiff, reduceIte, reduceCtorEq, Int.reduceLE, Int.reduceLT, Int.reduceGE, Int.reduceGT, Int.reduceAdd, Int.reduceSub, Int.reduceMul, Int.reduceToNat, Int.reduceBEq, Int.reduceBNe, Nat.reduceBEq, Nat.reduceDiv, Nat.reduceMod, Nat.reduceBEq, Int.reduceNeg, Int.reduceToNat, Int.reduceEq, Nat.reduceLeDiff, lp12_0, h23, h24]
  refine condC_dec (fun hc => ?_) (fun hc => ?_)
  · simp -implicitDefEqProofs (disch := omega) only [go_sem, Nat.reduceAdd, Nat.reduceMul, Nat.reduceSub, Nat.reduceEqDiff, Nat.reduceLT, Nat.reduceLeDiff, reduceIte, reduceCtorEq, Int.reduceLE, Int.reduceLT, Int.reduceGE, Int.reduceGT, Int.reduceAdd, Int.reduceSub, Int.reduceMul, Int.reduceToNat, Int.reduceBEq, Int.reduceBNe, Nat.reduceBEq, Nat.reduceDiv, Nat.reduceMod, Nat.reduceBEq, Int.reduceNeg, Int.reduceToNat, Int.reduceEq, Nat.reduceLeDiff, h22, h24]
    refine condC_dec (fun hl => ?_) (fun hl => ?_)
    · simp -implicitDefEqProofs (disch := omega) only [go_sem, Nat.reduceAdd, Nat.reduceMul, Nat.reduceSub, Nat.reduceEqDiff, Nat.reduceLT, Nat.reduceLeDiff, reduceIte, reduceCtorEq, Int.reduceLE, Int.reduceLT, Int.reduceGE, Int.reduceGT, Int.reduceAdd, Int.reduceSub, Int.reduceMul, Int.reduceToNat, Int.reduceBEq, Int.reduceBNe, Nat.reduceBEq, Nat.reduceDiv, Nat.reduceMod, Nat.reduceBEq, Int.reduceNeg, Int.reduceToNat, Int.reduceEq, Nat.reduceLeDiff, h24]
      refine ⟨j + 1, by omega, by omega, by simp -implicitDefEqProofs (disch := omega) only [go_sem, Nat.reduceAdd, Nat.reduceMul, Nat.reduceSub, Nat.reduceEqDiff, Nat.reduceLT, Nat.reduceLeDiff, reduceIte, reduceCtorEq, Int.reduceLE, Int.reduceLT, Int.reduceGE, Int.reduceGT, Int.reduceAdd, Int.reduceSub, Int.reduceMul, Int.reduceToNat, Int.reduceBEq, Int.reduceBNe, Nat.reduceBEq, Nat.reduceDiv, Nat.reduceMod, Nat.reduceBEq, Int.reduceNeg, Int.reduceToNat, Int.reduceEq, Nat.reduceLeDiff, h0], by simp -implicitDefEqProofs (disch := omega) only [go_sem, Nat.reduceAdd, Nat.reduceMul, Nat.reduceSub, Nat.reduceEqDiff, Nat.reduceLT, Nat.reduceLeDiff, reduceIte, reduceCtorEq, Int.reduceLE, Int.reduceLT, Int.reduceGE, Int.reduceGT, Int.reduceAdd, Int.reduceSub, Int.reduceMul, Int.reduceToNat, Int.reduceBEq, Int.reduceBNe, Nat.reduceBEq, Nat.reduceDiv, Nat.reduceMod, Nat.reduceBEq, Int.reduceNeg, Int.reduceToNat, Int.reduceEq, Nat.reduceLeDiff, h1], by simp -implicitDefEqProofs (disch := omega) only [go_sem, Nat.reduceAdd, Nat.reduceMul, Nat.reduceSub, Nat.reduceEqDiff, Nat.reduceLT, Nat.reduceLeDiff, reduceIte, reduceCtorEq, Int.reduceLE, Int.reduceLT, Int.reduceGE, Int.reduceGT, Int.reduceAdd, Int.reduceSub, Int.reduceMul, Int.reduceToNat, Int.reduceBEq, Int.reduceBNe, Nat.reduceBEq, Nat.reduceDiv, Nat.reduceMod, Nat.reduceBEq, Int.reduceNeg, Int.reduceToNat, Int.reduceEq, Nat.reduceLeDiff, h2], by simp -implicitDefEqProofs (disch := omega) only [go_sem, Nat.reduceAdd, Nat.reduceMul, Nat.reduceSub, Nat.reduceEqDiff, Nat.reduceLT, Nat.reduceLeDiff, reduceIte, reduceCtorEq, Int.reduceLE, Int.reduceLT, Int.reduceGE, Int.reduceGT, Int.reduceAdd, Int.reduceSub, Int.reduceMul, Int.reduceToNat, Int.reduceBEq, Int.reduceBNe, Nat.reduceBEq, Nat.reduceDiv, Nat.reduceMod, Nat.reduceBEq, Int.reduceNeg, Int.reduceToNat, Int.reduceEq, Nat.reduceLeDiff, h3], by simp -implicitDefEqProofs (disch := omega) only [go_sem, Nat.reduceAdd, Nat.reduceMul, Nat.reduceSub, Nat.reduceEqDiff, Nat.reduceLT, Nat.reduceLeDiff, reduceIte, reduceCtorEq, Int.reduceLE, Int.reduceLT, Int.reduceGE, Int.reduceGT, Int.reduceAdd, Int.reduceSub, Int.reduceMul, Int.reduceToNat, Int.reduceBEq, Int.reduceBNe, Nat.reduceBEq, Nat.reduceDiv, Nat.reduceMod, Nat.reduceBEq, Int.reduceNeg, Int.reduceToNat, Int.reduceEq, Nat.reduceLeDiff, h4], by simp -implicitDefEqProofs (disch := omega) only [go_sem, Nat.reduceAdd, Nat.reduceMul, Nat.reduceSub, Nat.reduceEqDiff, Nat.reduceLT, Nat.reduceLeDiff, reduceIte, reduceCtorEq, Int.reduceLE, Int.reduceLT, Int.reduceGE, Int.reduceGT, Int.reduceAdd, Int.reduceSub, Int.reduceMul, Int.reduceToNat, Int.reduceBEq, Int.reduceBNe, Nat.reduceBEq, Nat.reduceDiv, Nat.reduceMod, Nat.reduceBEq, Int.reduceNeg, Int.reduceToNat, Int.reduceEq, Nat.reduceLeDiff, h22], by simp -implicitDefEqProofs (disch := omega) only [go_sem, Nat.reduceAdd, Nat.reduceMul, Nat.reduceSub, Nat.reduceEqDiff, Nat.reduceLT, Nat.reduceLeDiff, reduceIte, reduceCtorEq, Int.reduceLE, Int.reduceLT, Int.reduceGE, Int.reduceGT, Int.reduceAdd, Int.reduceSub, Int.reduceMul, Int.reduceToNat, Int.reduceBEq, Int.reduceBNe, Nat.reduceBEq, Nat.reduceDiv, Nat.reduceMod, Nat.reduceBEq, Int.reduceNeg, Int.reduceToNat, Int.reduceEq, Nat.reduceLeDiff, h23], by simp -implicitDefEqProofs (disch := omega) only [go_sem, Nat.reduceAdd, Nat.reduceMul, Nat.reduceSub, Nat.reduceEqDiff, Nat.reduceLT, Nat.reduceLeDiff, reduceIte, reduceCtorEq, Int.reduceLE, Int.reduceLT, Int.reduceGE, Int.reduceGT, Int.reduceAdd, Int.reduceSub, Int.reduceMul, Int.reduceToNat, Int.reduceBEq, Int.reduceBNe, Nat.reduceBEq, Nat.reduceDiv, Nat.reduceMod, Nat.reduceBEq, Int.reduceNeg, Int.reduceToNat, Int.reduceEq, Nat.reduceLeDiff, go_sem], fun a ha => ?_⟩
      rcases Nat.lt_or_ge a j with h | h
      · exact hall a h
      · obtain rfl : a = j := by omega
        exact hl
    · have hb : verifyB root s i n p = false := by
        unfold verifyB
        have : (p.all fun h => decide (h.length = 32)) = false := by
          rw [List.all_eq_false]
          exact ⟨gt p j, gt_mem hc, by simpa using hl⟩
        rw [this, Bool.false_and]
      simp -implicitDefEqProofs (disch := omega) only [go_sem, Nat.reduceAdd, Nat.reduceMul, Nat.reduceSub, Nat.reduceEqDiff, Nat.reduceLT, Nat.reduceLeDiff, reduceIte, reduceCtorEq, Int.reduceLE, Int.reduceLT, Int.reduceGE, Int.reduceGT, Int.reduceAdd, Int.reduceSub, Int.reduceMul, Int.reduceToNat, Int.reduceBEq, Int.reduceBNe, Nat.reduceBEq, Nat.reduceDiv, Nat.reduceMod, Nat.reduceBEq, Int.reduceNeg, Int.reduceToNat, Int.reduceEq, Nat.reduceLeDiff, hb]
  · have hall2 : ∀ a ∈ p, a.length = 32 := fun a ha => by
      obtain ⟨q, hq, rfl⟩ := List.getElem_of_mem ha
      rw [← gt_eq hq]
      exact hall q (by omega)
    have hb0 : (p.all fun h => decide (h.length = 32)) = true := by
      rw [List.all_eq_true]
      intro a ha
      simpa using hall2 a ha
    have hf := fold_ok p.reverse (leafH s) i n k hi hn ⟨by simp; omega, fun a ha => by rw [List.reverse_reverse] at ha; rw [hall2 a ha]; omega⟩ (leafH_len s)
    rw [List.reverse_reverse, List.length_reverse] at hf
    obtain ⟨hf1, hf2⟩ := hf
    have hsm := Same_ok (foldR (leafH s) i n p.reverse).1 root (by omega)
    have hlf := Leaf_ok s hs
    unfold verifyB
    rw [hb0, Bool.true_and]
    generalize foldR (leafH s) i n p.reverse = F at *
    obtain ⟨f1, f2⟩ := F
    cases f2 with
    | true => simp -implicitDefEqProofs (disch := omega) only [go_sem, Nat.reduceAdd, Nat.reduceMul, Nat.reduceSub, Nat.reduceEqDiff, Nat.reduceLT, Nat.reduceLeDiff, reduceIte, reduceCtorEq, Int.reduceLE, Int.reduceLT, Int.reduceGE, Int.reduceGT, Int.reduceAdd, Int.reduceSub, Int.reduceMul, Int.reduceToNat, Int.reduceBEq, Int.reduceBNe, Nat.reduceBEq, Nat.reduceDiv, Nat.reduceMod, Nat.reduceBEq, Int.reduceNeg, Int.reduceToNat, Int.reduceEq, Nat.reduceLeDiff, h0, h1, h2, h3, h4, hlf, hf2, hsm]
    | false => simp -implicitDefEqProofs (disch := omega) only [go_sem, Nat.reduceAdd, Nat.reduceMul, Nat.reduceSub, Nat.reduceEqDiff, Nat.reduceLT, Nat.reduceLeDiff, reduceIte, reduceCtorEq, Int.reduceLE, Int.reduceLT, Int.reduceGE, Int.reduceGT, Int.reduceAdd, Int.reduceSub, Int.reduceMul, Int.reduceToNat, Int.reduceBEq, Int.reduceBNe, Nat.reduceBEq, Nat.reduceDiv, Nat.reduceMod, Nat.reduceBEq, Int.reduceNeg, Int.reduceToNat, Int.reduceEq, Nat.reduceLeDiff, h0, h1, h2, h3, h4, hlf, hf2]
theorem VerifyNo_ok (root s : List UInt8) (i n : Int) (v : V) (hv : roV (fun _ => noBlk) 8 v = some (v, [])) (h : i < 0 ∨ n ≤ i) :
    Gf fns 12 [.str root, .str s, .int .i64 i, .int .i64 n, .sl .nil 0 []] = some (.bool false, []) := by
  refine Gf_start rfl rfl ?_
  by_cases h1 : i < 0
  · simp -implicitDefEqProofs (disch := omega) only [go_sem, Nat.reduceAdd, Nat.reduceMul, Nat.reduceSub, Nat.reduceEqDiff, Nat.reduceLT, Nat.reduceLeDiff, reduceIte, reduceCtorEq, Int.reduceLE, Int.reduceLT, Int.reduceGE, Int.reduceGT, Int.reduceAdd, Int.reduceSub, Int.reduceMul, Int.reduceToNat, Int.reduceBEq, Int.reduceBNe, Nat.reduceBEq, Nat.reduceDiv, Nat.reduceMod, Nat.reduceBEq, Int.reduceNeg, Int.reduceToNat, Int.reduceEq, Nat.reduceLeDiff, h1]
  · simp -implicitDefEqProofs (disch := omega) only [go_sem, Nat.reduceAdd, Nat.reduceMul, Nat.reduceSub, Nat.reduceEqDiff, Nat.reduceLT, Nat.reduceLeDiff, reduceIte, reduceCtorEq, Int.reduceLE, Int.reduceLT, Int.reduceGE, Int.reduceGT, Int.reduceAdd, Int.reduceSub, Int.reduceMul, Int.reduceToNat, Int.reduceBEq, Int.reduceBNe, Nat.reduceBEq, Nat.reduceDiv, Nat.reduceMod, Nat.reduceBEq, Int.reduceNeg, Int.reduceToNat, Int.reduceEq, Nat.reduceLeDiff, h1]
end Go.Vm.Ytmjllpkkdlflpaa
