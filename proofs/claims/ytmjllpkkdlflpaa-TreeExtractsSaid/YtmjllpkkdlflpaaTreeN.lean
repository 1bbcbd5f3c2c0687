/- The law TreeShort, in the machine over values. -/
import Derived.Test.YtmjllpkkdlflpaaTreeM
set_option linter.unusedSectionVars false
set_option linter.unusedSimpArgs false
set_option linter.unusedVariables false
set_option maxHeartbeats 1000000
set_option maxRecDepth 100000
namespace Go.Vm
theorem pow_lt_half {j b : Nat} (h : 2 ^ j < 2 ^ (b + 1)) : 2 ^ j ≤ 2 ^ b := by
  have : j < b + 1 := (Nat.pow_lt_pow_iff_right (by omega)).1 h
  exact Nat.pow_le_pow_right (by omega) (by omega)
theorem pathR_bits : ∀ (b : Nat) (l : List (List UInt8)) (i : Nat), l.length ≤ 2 ^ b → (pathR l i).length ≤ b
  | b, l, i, hb => by
    by_cases h : 2 ≤ l.length
    · obtain ⟨c1, c2, c3, j, c4⟩ := cut_spec h
      match b with
      | 0 => simp at hb; omega
      | b + 1 =>
        have h1 : cut l.length ≤ 2 ^ b := by rw [c4]; exact pow_lt_half (by rw [← c4]; omega)
        by_cases hi : i < cut l.length
        · rw [pathR_l h hi, List.length_cons]
          have := pathR_bits b (l.take (cut l.length)) i (by simp; omega)
          omega
        · rw [pathR_r h hi, List.length_cons]
          have := pathR_bits b (l.drop (cut l.length)) (i - cut l.length) (by simp; omega)
          omega
    · rw [pathR_no h]
      simp
theorem cut_twice (k j : Nat) (hk : k = 2 ^ j) : cut (2 * k) = k := by
  have h0 : 1 ≤ k := by rw [hk]; exact Nat.one_le_two_pow
  obtain ⟨c1, c2, c3, i, c4⟩ := cut_spec (n := 2 * k) (by omega)
  have h1 : 2 ^ i < 2 ^ (j + 1) := by rw [← c4, Nat.pow_succ, ← hk]; omega
  have := pow_lt_half h1
  rw [← c4, ← hk] at this
  omega
theorem pathR_twice (m : List (List UInt8)) (k j i : Nat) (hk : k = 2 ^ j) (hm : m.length = k) : ∃ r, pathR (m ++ m) (k + i % k) = mroot m :: r := by
  have h0 : 1 ≤ k := by rw [hk]; exact Nat.one_le_two_pow
  have hl : (m ++ m).length = 2 * k := by rw [List.length_append]; omega
  rw [pathR_r (by omega) (by rw [hl, cut_twice k j hk]; omega), hl, cut_twice k j hk]
  refine ⟨pathR ((m ++ m).drop k) (k + i % k - k), ?_⟩
  have : (m ++ m).take k = m := by rw [← hm, List.take_left']; rfl
  rw [this]
theorem at_ok (n : Int) (L : Nat) (hL : 0 < L) : ∃ i : Nat, i < L ∧ (n.tmod L + L).tmod L = (i : Int) ∧ -(L : Int) < n.tmod L ∧ n.tmod L < L := by
  have h1 : -(L : Int) < n.tmod L := Int.lt_tmod_of_pos n (by omega)
  have h2 : n.tmod L < L := Int.tmod_lt_of_pos n (by omega)
  have h3 : 0 ≤ (n.tmod L + L).tmod L := Int.tmod_nonneg _ (by omega)
  have h4 : (n.tmod L + L).tmod L < L := Int.tmod_lt_of_pos _ (by omega)
  exact ⟨((n.tmod L + L).tmod L).toNat, by omega, by omega, h1, h2⟩
end Go.Vm
namespace Go.Vm.Ytmjllpkkdlflpaa
open Go.Proofs
def shA (a : List (List UInt8)) (i : Nat) (p7 : V) (b : Nat) (s : St) : Prop := b ≤ 6 ∧ s.t 5 = .sli 1024 1 0 a.length 1 ∧ s.σ 1024 = ⟨1, .rw, true, a.map V.str⟩ ∧ s.t 6 = .int .i64 (i : Int) ∧ s.t 7 = p7 ∧ s.t 8 = .int .i64 0 ∧ s.t 9 = .int .i64 (b : Int)
def shB (a : List (List UInt8)) (i : Nat) (j : Nat) (s : St) : Prop := 2 ^ j ≤ a.length ∧ s.t 5 = .sli 1024 1 0 a.length 1 ∧ s.σ 1024 = ⟨1, .rw, true, a.map V.str⟩ ∧ s.t 6 = .int .i64 (i : Int) ∧ s.t 10 = .int .i64 ((2 ^ j : Nat) : Int)
theorem short_loop1 (a : List (List UInt8)) (i : Nat) (ha : a.length ≤ 40) {Q : Ex → St → Prop} {s : St} (h : shB a i 0 s) (hQ : ∀ j s, shB a i j s → Q (.exit 2) s) : wpA (tabW fns) (.loop lp5_1) Q s := by
  refine wp_loopS (shB a i) (fun j => a.length - 2 ^ j) 0 h ?_
  rintro j ⟨t, σ⟩ ⟨hj, h5, s5, h6, h10⟩
  simp only at h5 s5 h6 h10
  have h0 : 1 ≤ 2 ^ j := Nat.one_le_two_pow
  have e : 2 ^ (j + 1) = 2 ^ j * 2 := Nat.pow_succ 2 j
  generalize hK : 2 ^ j = K at *
  simp -implicitDefEqProofs (disch := omega) only [go_sem, Nat.reduceAdd, Nat.reduceMul, Nat.reduceSub, Nat.reduceEqDiff, Nat.reduceLT, Nat.reduceLeDiff, reduceIte, reduceCtorEq, Int.reduceLE, Int.reduceLT, Int.reduceGE, Int.reduceGT, Int.reduceAdd, Int.reduceSub, Int.reduceMul, Int.reduceToNat, Int.reduceBEq, Int.reduceBNe, Nat.reduceBEq, Nat.reduceDiv, Nat.reduceMod, Nat.reduceBEq, Int.reduceNeg, Int.reduceToNat, Int.reduceEq, Nat.reduceLeDiff, lp5_1, h5, h10]
  refine condC_dec (fun hc => ?_) (fun hc => ?_)
  · simp -implicitDefEqProofs (disch := omega) only [go_sem, Nat.reduceAdd, Nat.reduceMul, Nat.reduceSub, Nat.reduceEqDiff, Nat.reduceLT, Nat.reduceLeDiff, reduceIte, reduceCtorEq, Int.reduceLE, Int.reduceLT, Int.reduceGE, Int.reduceGT, Int.reduceAdd, Int.reduceSub, Int.reduceMul, Int.reduceToNat, Int.reduceBEq, Int.reduceBNe, Nat.reduceBEq, Nat.reduceDiv, Nat.reduceMod, Nat.reduceBEq, Int.reduceNeg, Int.reduceToNat, Int.reduceEq, Nat.reduceLeDiff, h10]
    refine ⟨j + 1, by omega, by omega, by simp -implicitDefEqProofs (disch := omega) only [go_sem, Nat.reduceAdd, Nat.reduceMul, Nat.reduceSub, Nat.reduceEqDiff, Nat.reduceLT, Nat.reduceLeDiff, reduceIte, reduceCtorEq, Int.reduceLE, Int.reduceLT, Int.reduceGE, Int.reduceGT, Int.reduceAdd, Int.reduceSub, Int.reduceMul, Int.reduceToNat, Int.reduceBEq, Int.reduceBNe, Nat.reduceBEq, Nat.reduceDiv, Nat.reduceMod, Nat.reduceBEq, Int.reduceNeg, Int.reduceToNat, Int.reduceEq, Nat.reduceLeDiff, h5], s5, by simp -implicitDefEqProofs (disch := omega) only [go_sem, Nat.reduceAdd, Nat.reduceMul, Nat.reduceSub, Nat.reduceEqDiff, Nat.reduceLT, Nat.reduceLeDiff, reduceIte, reduceCtorEq, Int.reduceLE, Int.reduceLT, Int.reduceGE, Int.reduceGT, Int.reduceAdd, Int.reduceSub, Int.reduceMul, Int.reduceToNat, Int.reduceBEq, Int.reduceBNe, Nat.reduceBEq, Nat.reduceDiv, Nat.reduceMod, Nat.reduceBEq, Int.reduceNeg, Int.reduceToNat, Int.reduceEq, Nat.reduceLeDiff, h6], ?_⟩
    rw [e]; simp -implicitDefEqProofs (disch := omega) only [go_sem, Nat.reduceAdd, Nat.reduceMul, Nat.reduceSub, Nat.reduceEqDiff, Nat.reduceLT, Nat.reduceLeDiff, reduceIte, reduceCtorEq, Int.reduceLE, Int.reduceLT, Int.reduceGE, Int.reduceGT, Int.reduceAdd, Int.reduceSub, Int.reduceMul, Int.reduceToNat, Int.reduceBEq, Int.reduceBNe, Nat.reduceBEq, Nat.reduceDiv, Nat.reduceMod, Nat.reduceBEq, Int.reduceNeg, Int.reduceToNat, Int.reduceEq, Nat.reduceLeDiff, go_sem]
  · simp -implicitDefEqProofs (disch := omega) only [go_sem, Nat.reduceAdd, Nat.reduceMul, Nat.reduceSub, Nat.reduceEqDiff, Nat.reduceLT, Nat.reduceLeDiff, reduceIte, reduceCtorEq, Int.reduceLE, Int.reduceLT, Int.reduceGE, Int.reduceGT, Int.reduceAdd, Int.reduceSub, Int.reduceMul, Int.reduceToNat, Int.reduceBEq, Int.reduceBNe, Nat.reduceBEq, Nat.reduceDiv, Nat.reduceMod, Nat.reduceBEq, Int.reduceNeg, Int.reduceToNat, Int.reduceEq, Nat.reduceLeDiff, go_sem]
    exact hQ j _ ⟨by omega, by simp -implicitDefEqProofs (disch := omega) only [go_sem, Nat.reduceAdd, Nat.reduceMul, Nat.reduceSub, Nat.reduceEqDiff, Nat.reduceLT, Nat.reduceLeDiff, reduceIte, reduceCtorEq, Int.reduceLE, Int.reduceLT, Int.reduceGE, Int.reduceGT, Int.reduceAdd, Int.reduceSub, Int.reduceMul, Int.reduceToNat, Int.reduceBEq, Int.reduceBNe, Nat.reduceBEq, Nat.reduceDiv, Nat.reduceMod, Nat.reduceBEq, Int.reduceNeg, Int.reduceToNat, Int.reduceEq, Nat.reduceLeDiff, h5], s5, by simp -implicitDefEqProofs (disch := omega) only [go_sem, Nat.reduceAdd, Nat.reduceMul, Nat.reduceSub, Nat.reduceEqDiff, Nat.reduceLT, Nat.reduceLeDiff, reduceIte, reduceCtorEq, Int.reduceLE, Int.reduceLT, Int.reduceGE, Int.reduceGT, Int.reduceAdd, Int.reduceSub, Int.reduceMul, Int.reduceToNat, Int.reduceBEq, Int.reduceBNe, Nat.reduceBEq, Nat.reduceDiv, Nat.reduceMod, Nat.reduceBEq, Int.reduceNeg, Int.reduceToNat, Int.reduceEq, Nat.reduceLeDiff, h6], by rw [hK]; simp -implicitDefEqProofs (disch := omega) only [go_sem, Nat.reduceAdd, Nat.reduceMul, Nat.reduceSub, Nat.reduceEqDiff, Nat.reduceLT, Nat.reduceLeDiff, reduceIte, reduceCtorEq, Int.reduceLE, Int.reduceLT, Int.reduceGE, Int.reduceGT, Int.reduceAdd, Int.reduceSub, Int.reduceMul, Int.reduceToNat, Int.reduceBEq, Int.reduceBNe, Nat.reduceBEq, Nat.reduceDiv, Nat.reduceMod, Nat.reduceBEq, Int.reduceNeg, Int.reduceToNat, Int.reduceEq, Nat.reduceLeDiff, h10]⟩
theorem short_loop0 (a : List (List UInt8)) (i : Nat) (p7 : V) (ha : a.length ≤ 40) {Q : Ex → St → Prop} {s : St} (h : shA a i p7 0 s) (hQ : ∀ b s, shA a i p7 b s → a.length ≤ 2 ^ b → Q (.exit 0) s) : wpA (tabW fns) (.loop lp5_0) Q s := by
  refine wp_loopS (shA a i p7) (fun b => 6 - b) 0 h ?_
  rintro b ⟨t, σ⟩ ⟨hb, h5, s5, h6, h7, h8, h9⟩
  simp only at h5 s5 h6 h7 h8 h9
  have hb2 : 2 ^ b ≤ 64 := by
    have := Nat.pow_le_pow_right (show 0 < 2 by omega) hb
    simpa using this
  have hb6 : b = 6 → 2 ^ b = 64 := fun h => by rw [h]
  have e1 : (1 : Int) * 2 ^ b = ((2 ^ b : Nat) : Int) := by simp
  generalize hK : 2 ^ b = K at *
  simp -implicitDefEqProofs (disch := omega) only [go_sem, Nat.reduceAdd, Nat.reduceMul, Nat.reduceSub, Nat.reduceEqDiff, Nat.reduceLT, Nat.reduceLeDiff, reduceIte, reduceCtorEq, Int.reduceLE, Int.reduceLT, Int.reduceGE, Int.reduceGT, Int.reduceAdd, Int.reduceSub, Int.reduceMul, Int.reduceToNat, Int.reduceBEq, Int.reduceBNe, Nat.reduceBEq, Nat.reduceDiv, Nat.reduceMod, Nat.reduceBEq, Int.reduceNeg, Int.reduceToNat, Int.reduceEq, Nat.reduceLeDiff, lp5_0, h5, h9, e1]
  refine condC_dec (fun hc => ?_) (fun hc => ?_)
  · simp -implicitDefEqProofs (disch := omega) only [go_sem, Nat.reduceAdd, Nat.reduceMul, Nat.reduceSub, Nat.reduceEqDiff, Nat.reduceLT, Nat.reduceLeDiff, reduceIte, reduceCtorEq, Int.reduceLE, Int.reduceLT, Int.reduceGE, Int.reduceGT, Int.reduceAdd, Int.reduceSub, Int.reduceMul, Int.reduceToNat, Int.reduceBEq, Int.reduceBNe, Nat.reduceBEq, Nat.reduceDiv, Nat.reduceMod, Nat.reduceBEq, Int.reduceNeg, Int.reduceToNat, Int.reduceEq, Nat.reduceLeDiff, h9]
    refine ⟨b + 1, by omega, by omega, by simp -implicitDefEqProofs (disch := omega) only [go_sem, Nat.reduceAdd, Nat.reduceMul, Nat.reduceSub, Nat.reduceEqDiff, Nat.reduceLT, Nat.reduceLeDiff, reduceIte, reduceCtorEq, Int.reduceLE, Int.reduceLT, Int.reduceGE, Int.reduceGT, Int.reduceAdd, Int.reduceSub, Int.reduceMul, Int.reduceToNat, Int.reduceBEq, Int.reduceBNe, Nat.reduceBEq, Nat.reduceDiv, Nat.reduceMod, Nat.reduceBEq, Int.reduceNeg, Int.reduceToNat, Int.reduceEq, Nat.reduceLeDiff, h5], s5, by simp -implicitDefEqProofs (disch := omega) only [go_sem, Nat.reduceAdd, Nat.reduceMul, Nat.reduceSub, Nat.reduceEqDiff, Nat.reduceLT, Nat.reduceLeDiff, reduceIte, reduceCtorEq, Int.reduceLE, Int.reduceLT, Int.reduceGE, Int.reduceGT, Int.reduceAdd, Int.reduceSub, Int.reduceMul, Int.reduceToNat, Int.reduceBEq, Int.reduceBNe, Nat.reduceBEq, Nat.reduceDiv, Nat.reduceMod, Nat.reduceBEq, Int.reduceNeg, Int.reduceToNat, Int.reduceEq, Nat.reduceLeDiff, h6], by simp -implicitDefEqProofs (disch := omega) only [go_sem, Nat.reduceAdd, Nat.reduceMul, Nat.reduceSub, Nat.reduceEqDiff, Nat.reduceLT, Nat.reduceLeDiff, reduceIte, reduceCtorEq, Int.reduceLE, Int.reduceLT, Int.reduceGE, Int.reduceGT, Int.reduceAdd, Int.reduceSub, Int.reduceMul, Int.reduceToNat, Int.reduceBEq, Int.reduceBNe, Nat.reduceBEq, Nat.reduceDiv, Nat.reduceMod, Nat.reduceBEq, Int.reduceNeg, Int.reduceToNat, Int.reduceEq, Nat.reduceLeDiff, h7], by simp -implicitDefEqProofs (disch := omega) only [go_sem, Nat.reduceAdd, Nat.reduceMul, Nat.reduceSub, Nat.reduceEqDiff, Nat.reduceLT, Nat.reduceLeDiff, reduceIte, reduceCtorEq, Int.reduceLE, Int.reduceLT, Int.reduceGE, Int.reduceGT, Int.reduceAdd, Int.reduceSub, Int.reduceMul, Int.reduceToNat, Int.reduceBEq, Int.reduceBNe, Nat.reduceBEq, Nat.reduceDiv, Nat.reduceMod, Nat.reduceBEq, Int.reduceNeg, Int.reduceToNat, Int.reduceEq, Nat.reduceLeDiff, h8], by simp -implicitDefEqProofs (disch := omega) only [go_sem, Nat.reduceAdd, Nat.reduceMul, Nat.reduceSub, Nat.reduceEqDiff, Nat.reduceLT, Nat.reduceLeDiff, reduceIte, reduceCtorEq, Int.reduceLE, Int.reduceLT, Int.reduceGE, Int.reduceGT, Int.reduceAdd, Int.reduceSub, Int.reduceMul, Int.reduceToNat, Int.reduceBEq, Int.reduceBNe, Nat.reduceBEq, Nat.reduceDiv, Nat.reduceMod, Nat.reduceBEq, Int.reduceNeg, Int.reduceToNat, Int.reduceEq, Nat.reduceLeDiff, go_sem]⟩
  · simp -implicitDefEqProofs (disch := omega) only [go_sem, Nat.reduceAdd, Nat.reduceMul, Nat.reduceSub, Nat.reduceEqDiff, Nat.reduceLT, Nat.reduceLeDiff, reduceIte, reduceCtorEq, Int.reduceLE, Int.reduceLT, Int.reduceGE, Int.reduceGT, Int.reduceAdd, Int.reduceSub, Int.reduceMul, Int.reduceToNat, Int.reduceBEq, Int.reduceBNe, Nat.reduceBEq, Nat.reduceDiv, Nat.reduceMod, Nat.reduceBEq, Int.reduceNeg, Int.reduceToNat, Int.reduceEq, Nat.reduceLeDiff, go_sem]
    exact hQ b _ ⟨by omega, by simp -implicitDefEqProofs (disch := omega) only [go_sem, Nat.reduceAdd, Nat.reduceMul, Nat.reduceSub, Nat.reduceEqDiff, Nat.reduceLT, Nat.reduceLeDiff, reduceIte, reduceCtorEq, Int.reduceLE, Int.reduceLT, Int.reduceGE, Int.reduceGT, Int.reduceAdd, Int.reduceSub, Int.reduceMul, Int.reduceToNat, Int.reduceBEq, Int.reduceBNe, Nat.reduceBEq, Nat.reduceDiv, Nat.reduceMod, Nat.reduceBEq, Int.reduceNeg, Int.reduceToNat, Int.reduceEq, Nat.reduceLeDiff, h5], s5, by simp -implicitDefEqProofs (disch := omega) only [go_sem, Nat.reduceAdd, Nat.reduceMul, Nat.reduceSub, Nat.reduceEqDiff, Nat.reduceLT, Nat.reduceLeDiff, reduceIte, reduceCtorEq, Int.reduceLE, Int.reduceLT, Int.reduceGE, Int.reduceGT, Int.reduceAdd, Int.reduceSub, Int.reduceMul, Int.reduceToNat, Int.reduceBEq, Int.reduceBNe, Nat.reduceBEq, Nat.reduceDiv, Nat.reduceMod, Nat.reduceBEq, Int.reduceNeg, Int.reduceToNat, Int.reduceEq, Nat.reduceLeDiff, h6], by simp -implicitDefEqProofs (disch := omega) only [go_sem, Nat.reduceAdd, Nat.reduceMul, Nat.reduceSub, Nat.reduceEqDiff, Nat.reduceLT, Nat.reduceLeDiff, reduceIte, reduceCtorEq, Int.reduceLE, Int.reduceLT, Int.reduceGE, Int.reduceGT, Int.reduceAdd, Int.reduceSub, Int.reduceMul, Int.reduceToNat, Int.reduceBEq, Int.reduceBNe, Nat.reduceBEq, Nat.reduceDiv, Nat.reduceMod, Nat.reduceBEq, Int.reduceNeg, Int.reduceToNat, Int.reduceEq, Nat.reduceLeDiff, h7], by simp -implicitDefEqProofs (disch := omega) only [go_sem, Nat.reduceAdd, Nat.reduceMul, Nat.reduceSub, Nat.reduceEqDiff, Nat.reduceLT, Nat.reduceLeDiff, reduceIte, reduceCtorEq, Int.reduceLE, Int.reduceLT, Int.reduceGE, Int.reduceGT, Int.reduceAdd, Int.reduceSub, Int.reduceMul, Int.reduceToNat, Int.reduceBEq, Int.reduceBNe, Nat.reduceBEq, Nat.reduceDiv, Nat.reduceMod, Nat.reduceBEq, Int.reduceNeg, Int.reduceToNat, Int.reduceEq, Nat.reduceLeDiff, h8], by simp -implicitDefEqProofs (disch := omega) only [go_sem, Nat.reduceAdd, Nat.reduceMul, Nat.reduceSub, Nat.reduceEqDiff, Nat.reduceLT, Nat.reduceLeDiff, reduceIte, reduceCtorEq, Int.reduceLE, Int.reduceLT, Int.reduceGE, Int.reduceGT, Int.reduceAdd, Int.reduceSub, Int.reduceMul, Int.reduceToNat, Int.reduceBEq, Int.reduceBNe, Nat.reduceBEq, Nat.reduceDiv, Nat.reduceMod, Nat.reduceBEq, Int.reduceNeg, Int.reduceToNat, Int.reduceEq, Nat.reduceLeDiff, h9]⟩ (by rw [hK]; omega)
theorem treeShort_main (xs : List V) (h : FitsA Try.prog 8 [22, 3] xs) : fnA (tabW fns) ([22, 3].map fun _ => Mode.bor) ir5 xs (fun p => p = (.bool true, [])) := by
  obtain ⟨x, ys, rfl, h1, h⟩ := fitsA_s h
  obtain ⟨y, ys, rfl, h2, h⟩ := fitsA_s h
  obtain rfl := fitsA_0 h
  obtain ⟨k1, l1, rfl, hk1, _, hb1, _⟩ := fit_strs h1
  obtain ⟨n, rfl, hn⟩ := fit_int uInt h2
  have hre := reach_lt
  have f1 := few_ok k1 l1 (by omega)
  obtain ⟨s1, q1, hs100⟩ := fewL_small l1
  generalize fewL l1 = a at *
  refine fnA_start rfl ?_
  by_cases h0 : a.length = 0
  · simp -implicitDefEqProofs (disch := omega) only [go_sem, Nat.reduceAdd, Nat.reduceMul, Nat.reduceSub, Nat.reduceEqDiff, Nat.reduceLT, Nat.reduceLeDiff, reduceIte, reduceCtorEq, Int.reduceLE, Int.reduceLT, Int.reduceGE, Int.reduceGT, Int.reduceAdd, Int.reduceSub, Int.reduceMul, Int.reduceToNat, Int.reduceBEq, Int.reduceBNe, Nat.reduceBEq, Nat.reduceDiv, Nat.reduceMod, Nat.reduceBEq, Int.reduceNeg, Int.reduceToNat, Int.reduceEq, Nat.reduceLeDiff, f1, h0, awake_ok]
  · obtain ⟨i, hi, hat, t1, t2⟩ := at_ok n a.length (by omega)
    have pr := Prove_ok a.length a .ro i (Nat.le_refl _) hi s1
    have hpl := (pathR_len a.length a i (Nat.le_refl _)).1
    have hpb := fun b => pathR_bits b a i
    have hrl : (pathR a i).reverse.length = (pathR a i).length := List.length_reverse
    have hL0 : ¬ (a.length : Int) = 0 := by omega
    generalize pathR a i = P at *
    have fin : ∀ (j : Nat), 2 ^ j ≤ a.length → ∃ R : List (List UInt8), R.length ≤ 100 ∧ Gf fns 9 [.sl .ro (2 ^ j + 2 ^ j) ((a.take (2 ^ j) ++ a.take (2 ^ j)).map V.str), .int .i64 ((2 ^ j + i % 2 ^ j : Nat) : Int)] = some (.tup [.osl 1 (R.length + 1) ((R ++ [mroot (a.take (2 ^ j))]).map V.str), .int .i64 0], []) := by
      intro j hj
      have hm : (a.take (2 ^ j)).length = 2 ^ j := by simp; omega
      have h2 : (a.take (2 ^ j) ++ a.take (2 ^ j)).length = 2 ^ j + 2 ^ j := by rw [List.length_append, hm]
      have hsm : Small (a.take (2 ^ j) ++ a.take (2 ^ j)) := ⟨by omega, fun s hs => by
        rcases List.mem_append.1 hs with h | h
        · exact s1.2 s (List.mem_of_mem_take h)
        · exact s1.2 s (List.mem_of_mem_take h)⟩
      have hk0 : 0 < 2 ^ j := Nat.pow_pos (by omega)
      have hmod := Nat.mod_lt i hk0
      have p2 := Prove_ok _ (a.take (2 ^ j) ++ a.take (2 ^ j)) .ro (2 ^ j + i % 2 ^ j) (Nat.le_refl _) (by omega) hsm
      have pl := (pathR_len _ (a.take (2 ^ j) ++ a.take (2 ^ j)) (2 ^ j + i % 2 ^ j) (Nat.le_refl _)).1
      obtain ⟨r, hr⟩ := pathR_twice (a.take (2 ^ j)) (2 ^ j) j i rfl hm
      rw [hr] at p2 pl
      rw [h2] at p2 pl
      refine ⟨r.reverse, by simp at pl ⊢; omega, ?_⟩
      rw [p2, snoc_reverse]
      simp [pathV]
    have hpv : pathV P.reverse = (if P = [] then .sl .nil 0 [] else .osl 1 P.length (P.reverse.map V.str)) := by simp [pathV]
    rw [hpv] at pr
    by_cases hp : P = []
    · rw [if_pos hp] at pr
      simp -implicitDefEqProofs (disch := omega) only [go_sem, Nat.reduceAdd, Nat.reduceMul, Nat.reduceSub, Nat.reduceEqDiff, Nat.reduceLT, Nat.reduceLeDiff, reduceIte, reduceCtorEq, Int.reduceLE, Int.reduceLT, Int.reduceGE, Int.reduceGT, Int.reduceAdd, Int.reduceSub, Int.reduceMul, Int.reduceToNat, Int.reduceBEq, Int.reduceBNe, Nat.reduceBEq, Nat.reduceDiv, Nat.reduceMod, Nat.reduceBEq, Int.reduceNeg, Int.reduceToNat, Int.reduceEq, Nat.reduceLeDiff, f1, h0, hL0, hat, pr]
      refine short_loop0 a i (.sl .nil 0 []) (by omega) ⟨by omega, by simp -implicitDefEqProofs (disch := omega) only [go_sem, Nat.reduceAdd, Nat.reduceMul, Nat.reduceSub, Nat.reduceEqDiff, Nat.reduceLT, Nat.reduceLeDiff, reduceIte, reduceCtorEq, Int.reduceLE, Int.reduceLT, Int.reduceGE, Int.reduceGT, Int.reduceAdd, Int.reduceSub, Int.reduceMul, Int.reduceToNat, Int.reduceBEq, Int.reduceBNe, Nat.reduceBEq, Nat.reduceDiv, Nat.reduceMod, Nat.reduceBEq, Int.reduceNeg, Int.reduceToNat, Int.reduceEq, Nat.reduceLeDiff, go_sem], by simp -implicitDefEqProofs (disch := omega) only [go_sem, Nat.reduceAdd, Nat.reduceMul, Nat.reduceSub, Nat.reduceEqDiff, Nat.reduceLT, Nat.reduceLeDiff, reduceIte, reduceCtorEq, Int.reduceLE, Int.reduceLT, Int.reduceGE, Int.reduceGT, Int.reduceAdd, Int.reduceSub, Int.reduceMul, Int.reduceToNat, Int.reduceBEq, Int.reduceBNe, Nat.reduceBEq, Nat.reduceDiv, Nat.reduceMod, Nat.reduceBEq, Int.reduceNeg, Int.reduceToNat, Int.reduceEq, Nat.reduceLeDiff, go_sem], by simp -implicitDefEqProofs (disch := omega) only [go_sem, Nat.reduceAdd, Nat.reduceMul, Nat.reduceSub, Nat.reduceEqDiff, Nat.reduceLT, Nat.reduceLeDiff, reduceIte, reduceCtorEq, Int.reduceLE, Int.reduceLT, Int.reduceGE, Int.reduceGT, Int.reduceAdd, Int.reduceSub, Int.reduceMul, Int.reduceToNat, Int.reduceBEq, Int.reduceBNe, Nat.reduceBEq, Nat.reduceDiv, Nat.reduceMod, Nat.reduceBEq, Int.reduceNeg, Int.reduceToNat, Int.reduceEq, Nat.reduceLeDiff, go_sem], by simp -implicitDefEqProofs (disch := omega) only [go_sem, Nat.reduceAdd, Nat.reduceMul, Nat.reduceSub, Nat.reduceEqDiff, Nat.reduceLT, Nat.reduceLeDiff, reduceIte, reduceCtorEq, Int.reduceLE, Int.reduceLT, Int.reduceGE, Int.reduceGT, Int.reduceAdd, Int.reduceSub, Int.reduceMul, Int.reduceToNat, Int.reduceBEq, Int.reduceBNe, Nat.reduceBEq, Nat.reduceDiv, Nat.reduceMod, Nat.reduceBEq, Int.reduceNeg, Int.reduceToNat, Int.reduceEq, Nat.reduceLeDiff, go_sem], by simp -implicitDefEqProofs (disch := omega) only [go_sem, Nat.reduceAdd, Nat.reduceMul, Nat.reduceSub, Nat.reduceEqDiff, Nat.reduceLT, Nat.reduceLeDiff, reduceIte, reduceCtorEq, Int.reduceLE, Int.reduceLT, Int.reduceGE, Int.reduceGT, Int.reduceAdd, Int.reduceSub, Int.reduceMul, Int.reduceToNat, Int.reduceBEq, Int.reduceBNe, Nat.reduceBEq, Nat.reduceDiv, Nat.reduceMod, Nat.reduceBEq, Int.reduceNeg, Int.reduceToNat, Int.reduceEq, Nat.reduceLeDiff, go_sem], by simp -implicitDefEqProofs (disch := omega) only [go_sem, Nat.reduceAdd, Nat.reduceMul, Nat.reduceSub, Nat.reduceEqDiff, Nat.reduceLT, Nat.reduceLeDiff, reduceIte, reduceCtorEq, Int.reduceLE, Int.reduceLT, Int.reduceGE, Int.reduceGT, Int.reduceAdd, Int.reduceSub, Int.reduceMul, Int.reduceToNat, Int.reduceBEq, Int.reduceBNe, Nat.reduceBEq, Nat.reduceDiv, Nat.reduceMod, Nat.reduceBEq, Int.reduceNeg, Int.reduceToNat, Int.reduceEq, Nat.reduceLeDiff, go_sem]⟩ ?_
      rintro b ⟨t, σ⟩ ⟨_, h5, s5, h6, h7, h8, h9⟩ hbl
      simp only at h5 s5 h6 h7 h8 h9
      have hpb2 := hpb b hbl
      simp -implicitDefEqProofs (disch := omega) only [go_sem, Nat.reduceAdd, Nat.reduceMul, Nat.reduceSub, Nat.reduceEqDiff, Nat.reduceLT, Nat.reduceLeDiff, reduceIte, reduceCtorEq, Int.reduceLE, Int.reduceLT, Int.reduceGE, Int.reduceGT, Int.reduceAdd, Int.reduceSub, Int.reduceMul, Int.reduceToNat, Int.reduceBEq, Int.reduceBNe, Nat.reduceBEq, Nat.reduceDiv, Nat.reduceMod, Nat.reduceBEq, Int.reduceNeg, Int.reduceToNat, Int.reduceEq, Nat.reduceLeDiff, h7, h8, h9, awake_ok, hp, List.length_nil]
      refine short_loop1 a i (by omega) ⟨by simp; omega, by simp -implicitDefEqProofs (disch := omega) only [go_sem, Nat.reduceAdd, Nat.reduceMul, Nat.reduceSub, Nat.reduceEqDiff, Nat.reduceLT, Nat.reduceLeDiff, reduceIte, reduceCtorEq, Int.reduceLE, Int.reduceLT, Int.reduceGE, Int.reduceGT, Int.reduceAdd, Int.reduceSub, Int.reduceMul, Int.reduceToNat, Int.reduceBEq, Int.reduceBNe, Nat.reduceBEq, Nat.reduceDiv, Nat.reduceMod, Nat.reduceBEq, Int.reduceNeg, Int.reduceToNat, Int.reduceEq, Nat.reduceLeDiff, h5], s5, by simp -implicitDefEqProofs (disch := omega) only [go_sem, Nat.reduceAdd, Nat.reduceMul, Nat.reduceSub, Nat.reduceEqDiff, Nat.reduceLT, Nat.reduceLeDiff, reduceIte, reduceCtorEq, Int.reduceLE, Int.reduceLT, Int.reduceGE, Int.reduceGT, Int.reduceAdd, Int.reduceSub, Int.reduceMul, Int.reduceToNat, Int.reduceBEq, Int.reduceBNe, Nat.reduceBEq, Nat.reduceDiv, Nat.reduceMod, Nat.reduceBEq, Int.reduceNeg, Int.reduceToNat, Int.reduceEq, Nat.reduceLeDiff, h6], by simp -implicitDefEqProofs (disch := omega) only [go_sem, Nat.reduceAdd, Nat.reduceMul, Nat.reduceSub, Nat.reduceEqDiff, Nat.reduceLT, Nat.reduceLeDiff, reduceIte, reduceCtorEq, Int.reduceLE, Int.reduceLT, Int.reduceGE, Int.reduceGT, Int.reduceAdd, Int.reduceSub, Int.reduceMul, Int.reduceToNat, Int.reduceBEq, Int.reduceBNe, Nat.reduceBEq, Nat.reduceDiv, Nat.reduceMod, Nat.reduceBEq, Int.reduceNeg, Int.reduceToNat, Int.reduceEq, Nat.reduceLeDiff, go_sem]; rfl⟩ ?_
      rintro j ⟨t, σ⟩ ⟨hj, h5, s5, h6, h10⟩
      simp only at h5 s5 h6 h10
      obtain ⟨R, hR, hpr⟩ := fin j hj
      have ro := Root_ok a.length (a.take (2 ^ j)) .ro (by simp; omega) (s1.take _)
      have hk0 : 0 < 2 ^ j := Nat.pow_pos (by omega)
      have hmod := Nat.mod_lt i hk0
      have hm : (a.take (2 ^ j)).length = 2 ^ j := by simp; omega
      rw [hm] at ro
      have hm2 : (a.take (2 ^ j) ++ a.take (2 ^ j)).length = 2 ^ j + 2 ^ j := by rw [List.length_append, hm]
      have hR2 : (R ++ [mroot (a.take (2 ^ j))]).length = R.length + 1 := by simp
      have hR3 : gt (R ++ [mroot (a.take (2 ^ j))]) R.length = mroot (a.take (2 ^ j)) := gt_mid rfl
      generalize hK : 2 ^ j = K at *
      have hKz : ¬ (K : Int) = 0 := by omega
      have hKn : ¬ K = 0 := by omega
      simp -implicitDefEqProofs (disch := omega) only [go_sem, Nat.reduceAdd, Nat.reduceMul, Nat.reduceSub, Nat.reduceEqDiff, Nat.reduceLT, Nat.reduceLeDiff, reduceIte, reduceCtorEq, Int.reduceLE, Int.reduceLT, Int.reduceGE, Int.reduceGT, Int.reduceAdd, Int.reduceSub, Int.reduceMul, Int.reduceToNat, Int.reduceBEq, Int.reduceBNe, Nat.reduceBEq, Nat.reduceDiv, Nat.reduceMod, Nat.reduceBEq, Int.reduceNeg, Int.reduceToNat, Int.reduceEq, Nat.reduceLeDiff, go_sem]
      refine wp_draw_E ?_
      simp -implicitDefEqProofs (disch := omega) only [go_sem, Nat.reduceAdd, Nat.reduceMul, Nat.reduceSub, Nat.reduceEqDiff, Nat.reduceLT, Nat.reduceLeDiff, reduceIte, reduceCtorEq, Int.reduceLE, Int.reduceLT, Int.reduceGE, Int.reduceGT, Int.reduceAdd, Int.reduceSub, Int.reduceMul, Int.reduceToNat, Int.reduceBEq, Int.reduceBNe, Nat.reduceBEq, Nat.reduceDiv, Nat.reduceMod, Nat.reduceBEq, Int.reduceNeg, Int.reduceToNat, Int.reduceEq, Nat.reduceLeDiff, h5, s5, h10, hKn]
      simp -implicitDefEqProofs (disch := omega) only [go_sem, Nat.reduceAdd, Nat.reduceMul, Nat.reduceSub, Nat.reduceEqDiff, Nat.reduceLT, Nat.reduceLeDiff, reduceIte, reduceCtorEq, Int.reduceLE, Int.reduceLT, Int.reduceGE, Int.reduceGT, Int.reduceAdd, Int.reduceSub, Int.reduceMul, Int.reduceToNat, Int.reduceBEq, Int.reduceBNe, Nat.reduceBEq, Nat.reduceDiv, Nat.reduceMod, Nat.reduceBEq, Int.reduceNeg, Int.reduceToNat, Int.reduceEq, Nat.reduceLeDiff, h6, h10, hKz, hpr]
      refine wp_draw_E ?_
      simp -implicitDefEqProofs (disch := omega) only [go_sem, Nat.reduceAdd, Nat.reduceMul, Nat.reduceSub, Nat.reduceEqDiff, Nat.reduceLT, Nat.reduceLeDiff, reduceIte, reduceCtorEq, Int.reduceLE, Int.reduceLT, Int.reduceGE, Int.reduceGT, Int.reduceAdd, Int.reduceSub, Int.reduceMul, Int.reduceToNat, Int.reduceBEq, Int.reduceBNe, Nat.reduceBEq, Nat.reduceDiv, Nat.reduceMod, Nat.reduceBEq, Int.reduceNeg, Int.reduceToNat, Int.reduceEq, Nat.reduceLeDiff, h5, s5, h10, ro, hR3, Nat.add_sub_cancel]
    · rw [if_neg hp] at pr
      simp -implicitDefEqProofs (disch := omega) only [go_sem, Nat.reduceAdd, Nat.reduceMul, Nat.reduceSub, Nat.reduceEqDiff, Nat.reduceLT, Nat.reduceLeDiff, reduceIte, reduceCtorEq, Int.reduceLE, Int.reduceLT, Int.reduceGE, Int.reduceGT, Int.reduceAdd, Int.reduceSub, Int.reduceMul, Int.reduceToNat, Int.reduceBEq, Int.reduceBNe, Nat.reduceBEq, Nat.reduceDiv, Nat.reduceMod, Nat.reduceBEq, Int.reduceNeg, Int.reduceToNat, Int.reduceEq, Nat.reduceLeDiff, f1, h0, hL0, hat, pr]
      refine short_loop0 a i (.sli 2176 1 0 P.length 1) (by omega) ⟨by omega, by simp -implicitDefEqProofs (disch := omega) only [go_sem, Nat.reduceAdd, Nat.reduceMul, Nat.reduceSub, Nat.reduceEqDiff, Nat.reduceLT, Nat.reduceLeDiff, reduceIte, reduceCtorEq, Int.reduceLE, Int.reduceLT, Int.reduceGE, Int.reduceGT, Int.reduceAdd, Int.reduceSub, Int.reduceMul, Int.reduceToNat, Int.reduceBEq, Int.reduceBNe, Nat.reduceBEq, Nat.reduceDiv, Nat.reduceMod, Nat.reduceBEq, Int.reduceNeg, Int.reduceToNat, Int.reduceEq, Nat.reduceLeDiff, go_sem], by simp -implicitDefEqProofs (disch := omega) only [go_sem, Nat.reduceAdd, Nat.reduceMul, Nat.reduceSub, Nat.reduceEqDiff, Nat.reduceLT, Nat.reduceLeDiff, reduceIte, reduceCtorEq, Int.reduceLE, Int.reduceLT, Int.reduceGE, Int.reduceGT, Int.reduceAdd, Int.reduceSub, Int.reduceMul, Int.reduceToNat, Int.reduceBEq, Int.reduceBNe, Nat.reduceBEq, Nat.reduceDiv, Nat.reduceMod, Nat.reduceBEq, Int.reduceNeg, Int.reduceToNat, Int.reduceEq, Nat.reduceLeDiff, go_sem], by simp -implicitDefEqProofs (disch := omega) only [go_sem, Nat.reduceAdd, Nat.reduceMul, Nat.reduceSub, Nat.reduceEqDiff, Nat.reduceLT, Nat.reduceLeDiff, reduceIte, reduceCtorEq, Int.reduceLE, Int.reduceLT, Int.reduceGE, Int.reduceGT, Int.reduceAdd, Int.reduceSub, Int.reduceMul, Int.reduceToNat, Int.reduceBEq, Int.reduceBNe, Nat.reduceBEq, Nat.reduceDiv, Nat.reduceMod, Nat.reduceBEq, Int.reduceNeg, Int.reduceToNat, Int.reduceEq, Nat.reduceLeDiff, go_sem], by simp -implicitDefEqProofs (disch := omega) only [go_sem, Nat.reduceAdd, Nat.reduceMul, Nat.reduceSub, Nat.reduceEqDiff, Nat.reduceLT, Nat.reduceLeDiff, reduceIte, reduceCtorEq, Int.reduceLE, Int.reduceLT, Int.reduceGE, Int.reduceGT, Int.reduceAdd, Int.reduceSub, Int.reduceMul, Int.reduceToNat, Int.reduceBEq, Int.reduceBNe, Nat.reduceBEq, Nat.reduceDiv, Nat.reduceMod, Nat.reduceBEq, Int.reduceNeg, Int.reduceToNat, Int.reduceEq, Nat.reduceLeDiff, go_sem], by simp -implicitDefEqProofs (disch := omega) only [go_sem, Nat.reduceAdd, Nat.reduceMul, Nat.reduceSub, Nat.reduceEqDiff, Nat.reduceLT, Nat.reduceLeDiff, reduceIte, reduceCtorEq, Int.reduceLE, Int.reduceLT, Int.reduceGE, Int.reduceGT, Int.reduceAdd, Int.reduceSub, Int.reduceMul, Int.reduceToNat, Int.reduceBEq, Int.reduceBNe, Nat.reduceBEq, Nat.reduceDiv, Nat.reduceMod, Nat.reduceBEq, Int.reduceNeg, Int.reduceToNat, Int.reduceEq, Nat.reduceLeDiff, go_sem], by simp -implicitDefEqProofs (disch := omega) only [go_sem, Nat.reduceAdd, Nat.reduceMul, Nat.reduceSub, Nat.reduceEqDiff, Nat.reduceLT, Nat.reduceLeDiff, reduceIte, reduceCtorEq, Int.reduceLE, Int.reduceLT, Int.reduceGE, Int.reduceGT, Int.reduceAdd, Int.reduceSub, Int.reduceMul, Int.reduceToNat, Int.reduceBEq, Int.reduceBNe, Nat.reduceBEq, Nat.reduceDiv, Nat.reduceMod, Nat.reduceBEq, Int.reduceNeg, Int.reduceToNat, Int.reduceEq, Nat.reduceLeDiff, go_sem]⟩ ?_
      rintro b ⟨t, σ⟩ ⟨_, h5, s5, h6, h7, h8, h9⟩ hbl
      simp only at h5 s5 h6 h7 h8 h9
      have hpb2 := hpb b hbl
      simp -implicitDefEqProofs (disch := omega) only [go_sem, Nat.reduceAdd, Nat.reduceMul, Nat.reduceSub, Nat.reduceEqDiff, Nat.reduceLT, Nat.reduceLeDiff, reduceIte, reduceCtorEq, Int.reduceLE, Int.reduceLT, Int.reduceGE, Int.reduceGT, Int.reduceAdd, Int.reduceSub, Int.reduceMul, Int.reduceToNat, Int.reduceBEq, Int.reduceBNe, Nat.reduceBEq, Nat.reduceDiv, Nat.reduceMod, Nat.reduceBEq, Int.reduceNeg, Int.reduceToNat, Int.reduceEq, Nat.reduceLeDiff, h7, h8, h9, awake_ok, hp, List.length_nil]
      refine short_loop1 a i (by omega) ⟨by simp; omega, by simp -implicitDefEqProofs (disch := omega) only [go_sem, Nat.reduceAdd, Nat.reduceMul, Nat.reduceSub, Nat.reduceEqDiff, Nat.reduceLT, Nat.reduceLeDiff, reduceIte, reduceCtorEq, Int.reduceLE, Int.reduceLT, Int.reduceGE, Int.reduceGT, Int.reduceAdd, Int.reduceSub, Int.reduceMul, Int.reduceToNat, Int.reduceBEq, Int.reduceBNe, Nat.reduceBEq, Nat.reduceDiv, Nat.reduceMod, Nat.reduceBEq, Int.reduceNeg, Int.reduceToNat, Int.reduceEq, Nat.reduceLeDiff, h5], s5, by simp -implicitDefEqProofs (disch := omega) only [go_sem, Nat.reduceAdd, Nat.reduceMul, Nat.reduceSub, Nat.reduceEqDiff, Nat.reduceLT, Nat.reduceLeDiff, reduceIte, reduceCtorEq, Int.reduceLE, Int.reduceLT, Int.reduceGE, Int.reduceGT, Int.reduceAdd, Int.reduceSub, Int.reduceMul, Int.reduceToNat, Int.reduceBEq, Int.reduceBNe, Nat.reduceBEq, Nat.reduceDiv, Nat.reduceMod, Nat.reduceBEq, Int.reduceNeg, Int.reduceToNat, Int.reduceEq, Nat.reduceLeDiff, h6], by simp -implicitDefEqProofs (disch := omega) only [go_sem, Nat.reduceAdd, Nat.reduceMul, Nat.reduceSub, Nat.reduceEqDiff, Nat.reduceLT, Nat.reduceLeDiff, reduceIte, reduceCtorEq, Int.reduceLE, Int.reduceLT, Int.reduceGE, Int.reduceGT, Int.reduceAdd, Int.reduceSub, Int.reduceMul, Int.reduceToNat, Int.reduceBEq, Int.reduceBNe, Nat.reduceBEq, Nat.reduceDiv, Nat.reduceMod, Nat.reduceBEq, Int.reduceNeg, Int.reduceToNat, Int.reduceEq, Nat.reduceLeDiff, go_sem]; rfl⟩ ?_
      rintro j ⟨t, σ⟩ ⟨hj, h5, s5, h6, h10⟩
      simp only at h5 s5 h6 h10
      obtain ⟨R, hR, hpr⟩ := fin j hj
      have ro := Root_ok a.length (a.take (2 ^ j)) .ro (by simp; omega) (s1.take _)
      have hk0 : 0 < 2 ^ j := Nat.pow_pos (by omega)
      have hmod := Nat.mod_lt i hk0
      have hm : (a.take (2 ^ j)).length = 2 ^ j := by simp; omega
      rw [hm] at ro
      have hm2 : (a.take (2 ^ j) ++ a.take (2 ^ j)).length = 2 ^ j + 2 ^ j := by rw [List.length_append, hm]
      have hR2 : (R ++ [mroot (a.take (2 ^ j))]).length = R.length + 1 := by simp
      have hR3 : gt (R ++ [mroot (a.take (2 ^ j))]) R.length = mroot (a.take (2 ^ j)) := gt_mid rfl
      generalize hK : 2 ^ j = K at *
      have hKz : ¬ (K : Int) = 0 := by omega
      have hKn : ¬ K = 0 := by omega
      simp -implicitDefEqProofs (disch := omega) only [go_sem, Nat.reduceAdd, Nat.reduceMul, Nat.reduceSub, Nat.reduceEqDiff, Nat.reduceLT, Nat.reduceLeDiff, reduceIte, reduceCtorEq, Int.reduceLE, Int.reduceLT, Int.reduceGE, Int.reduceGT, Int.reduceAdd, Int.reduceSub, Int.reduceMul, Int.reduceToNat, Int.reduceBEq, Int.reduceBNe, Nat.reduceBEq, Nat.reduceDiv, Nat.reduceMod, Nat.reduceBEq, Int.reduceNeg, Int.reduceToNat, Int.reduceEq, Nat.reduceLeDiff, go_sem]
      refine wp_draw_E ?_
      simp -implicitDefEqProofs (disch := omega) only [go_sem, Nat.reduceAdd, Nat.reduceMul, Nat.reduceSub, Nat.reduceEqDiff, Nat.reduceLT, Nat.reduceLeDiff, reduceIte, reduceCtorEq, Int.reduceLE, Int.reduceLT, Int.reduceGE, Int.reduceGT, Int.reduceAdd, Int.reduceSub, Int.reduceMul, Int.reduceToNat, Int.reduceBEq, Int.reduceBNe, Nat.reduceBEq, Nat.reduceDiv, Nat.reduceMod, Nat.reduceBEq, Int.reduceNeg, Int.reduceToNat, Int.reduceEq, Nat.reduceLeDiff, h5, s5, h10, hKn]
      simp -implicitDefEqProofs (disch := omega) only [go_sem, Nat.reduceAdd, Nat.reduceMul, Nat.reduceSub, Nat.reduceEqDiff, Nat.reduceLT, Nat.reduceLeDiff, reduceIte, reduceCtorEq, Int.reduceLE, Int.reduceLT, Int.reduceGE, Int.reduceGT, Int.reduceAdd, Int.reduceSub, Int.reduceMul, Int.reduceToNat, Int.reduceBEq, Int.reduceBNe, Nat.reduceBEq, Nat.reduceDiv, Nat.reduceMod, Nat.reduceBEq, Int.reduceNeg, Int.reduceToNat, Int.reduceEq, Nat.reduceLeDiff, h6, h10, hKz, hpr]
      refine wp_draw_E ?_
      simp -implicitDefEqProofs (disch := omega) only [go_sem, Nat.reduceAdd, Nat.reduceMul, Nat.reduceSub, Nat.reduceEqDiff, Nat.reduceLT, Nat.reduceLeDiff, reduceIte, reduceCtorEq, Int.reduceLE, Int.reduceLT, Int.reduceGE, Int.reduceGT, Int.reduceAdd, Int.reduceSub, Int.reduceMul, Int.reduceToNat, Int.reduceBEq, Int.reduceBNe, Nat.reduceBEq, Nat.reduceDiv, Nat.reduceMod, Nat.reduceBEq, Int.reduceNeg, Int.reduceToNat, Int.reduceEq, Nat.reduceLeDiff, h5, s5, h10, ro, hR3, Nat.add_sub_cancel]
end Go.Vm.Ytmjllpkkdlflpaa
