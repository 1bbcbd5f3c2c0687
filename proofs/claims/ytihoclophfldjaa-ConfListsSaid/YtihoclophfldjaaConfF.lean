/- Those that take part without somebody; the law. -/
import Derived.Test.YtihoclophfldjaaConfE
set_option linter.unusedSectionVars false
set_option linter.unusedSimpArgs false
set_option linter.unusedVariables false
set_option maxHeartbeats 1000000
set_option maxRecDepth 10000
namespace Go.Vm
def del (l : List Nat) (W : Nat) : List Nat := l.filter fun x => !decide (x = W)
theorem del_len (l : List Nat) (W : Nat) : (del l W).length ≤ l.length := List.length_filter_le _ _
theorem del_succ (l : List Nat) (W j : Nat) (hj : j < l.length) : del (l.take (j + 1)) W = if gt l j = W then del (l.take j) W else del (l.take j) W ++ [gt l j] := by
  unfold del
  rw [take_gt hj, List.filter_append]
  by_cases h : gt l j = W <;> simp [h]
theorem del_no (l : List Nat) (W : Nat) (h : W ∉ l) : del l W = l := by
  unfold del
  rw [List.filter_eq_self]
  intro x hx
  have : ¬ x = W := fun c => h (c ▸ hx)
  simp [this]
end Go.Vm
namespace Go.Vm.Ytihoclophfldjaa
open Go.Proofs
structure DL where
  j : Nat
  i : Nat
  C : List Nat
def delS (l : List Nat) (W : Nat) (p : DL) (s : St) : Prop := p.i < p.j ∧ p.j ≤ l.length ∧ p.C.length = l.length ∧ p.C.take p.i = del (l.take p.j) W ∧ p.C.drop p.j = l.drop p.j ∧
  s.t 0 = .sli 0 1 0 l.length 1 ∧ s.t 1 = .fn 25 [.pt [.int .i64 (W : Int)] 0] ∧ s.t 5 = .int .i64 (p.i : Int) ∧ s.t 6 = .int .i64 (p.j : Int) ∧ s.σ 0 = ⟨1, .rw, true, p.C.map iv⟩
theorem Del_ok (l : List Nat) (W : Nat) (hl : l.length ≤ 16) : Gf fns 24 [.osl 1 l.length (l.map iv), .fn 25 [.pt [.int .i64 (W : Int)] 0]] = some (.osl 1 (del l W).length ((del l W).map iv), []) := by
  obtain ⟨r, hr, hcase⟩ := IdxF_ok l W hl
  refine Gf_start rfl rfl ?_
  rcases hcase with ⟨rfl, hn⟩ | ⟨i, rfl, hi, hg, hn⟩
  · rw [del_no l W hn]
    simp -implicitDefEqProofs (disch := omega) only [go_sem, Nat.reduceAdd, Nat.reduceMul, Nat.reduceSub, Nat.reduceEqDiff, Nat.reduceLT, Nat.reduceLeDiff, reduceIte, reduceCtorEq, Int.reduceLE, Int.reduceLT, Int.reduceGE, Int.reduceGT, Int.reduceAdd, Int.reduceSub, Int.reduceMul, Int.reduceToNat, Int.reduceBEq, Int.reduceBNe, Nat.reduceBEq, Nat.reduceDiv, Nat.reduceMod, Int.reduceNeg, Int.reduceEq, hr]
  · have hne : ¬ (i : Int) = -1 := by omega
    simp -implicitDefEqProofs (disch := omega) only [go_sem, Nat.reduceAdd, Nat.reduceMul, Nat.reduceSub, Nat.reduceEqDiff, Nat.reduceLT, Nat.reduceLeDiff, reduceIte, reduceCtorEq, Int.reduceLE, Int.reduceLT, Int.reduceGE, Int.reduceGT, Int.reduceAdd, Int.reduceSub, Int.reduceMul, Int.reduceToNat, Int.reduceBEq, Int.reduceBNe, Nat.reduceBEq, Nat.reduceDiv, Nat.reduceMod, Int.reduceNeg, Int.reduceEq, hr, hne]
    refine wp_loopS (delS l W) (fun p => l.length - p.j) ⟨i + 1, i, l⟩ ⟨by simp only; omega, by simp only; omega, rfl, by simp only; rw [del_succ l W i hi, if_pos hg, del_no _ _ hn], rfl, by simp -implicitDefEqProofs (disch := omega) only [go_sem, Nat.reduceAdd, Nat.reduceMul, Nat.reduceSub, Nat.reduceEqDiff, Nat.reduceLT, Nat.reduceLeDiff, reduceIte, reduceCtorEq, Int.reduceLE, Int.reduceLT, Int.reduceGE, Int.reduceGT, Int.reduceAdd, Int.reduceSub, Int.reduceMul, Int.reduceToNat, Int.reduceBEq, Int.reduceBNe, Nat.reduceBEq, Nat.reduceDiv, Nat.reduceMod, Int.reduceNeg, Int.reduceEq, go_sem], by simp -implicitDefEqProofs (disch := omega) only [go_sem, Nat.reduceAdd, Nat.reduceMul, Nat.reduceSub, Nat.reduceEqDiff, Nat.reduceLT, Nat.reduceLeDiff, reduceIte, reduceCtorEq, Int.reduceLE, Int.reduceLT, Int.reduceGE, Int.reduceGT, Int.reduceAdd, Int.reduceSub, Int.reduceMul, Int.reduceToNat, Int.reduceBEq, Int.reduceBNe, Nat.reduceBEq, Nat.reduceDiv, Nat.reduceMod, Int.reduceNeg, Int.reduceEq, go_sem], by simp -implicitDefEqProofs (disch := omega) only [go_sem, Nat.reduceAdd, Nat.reduceMul, Nat.reduceSub, Nat.reduceEqDiff, Nat.reduceLT, Nat.reduceLeDiff, reduceIte, reduceCtorEq, Int.reduceLE, Int.reduceLT, Int.reduceGE, Int.reduceGT, Int.reduceAdd, Int.reduceSub, Int.reduceMul, Int.reduceToNat, Int.reduceBEq, Int.reduceBNe, Nat.reduceBEq, Nat.reduceDiv, Nat.reduceMod, Int.reduceNeg, Int.reduceEq, go_sem], by simp -implicitDefEqProofs (disch := omega) only [go_sem, Nat.reduceAdd, Nat.reduceMul, Nat.reduceSub, Nat.reduceEqDiff, Nat.reduceLT, Nat.reduceLeDiff, reduceIte, reduceCtorEq, Int.reduceLE, Int.reduceLT, Int.reduceGE, Int.reduceGT, Int.reduceAdd, Int.reduceSub, Int.reduceMul, Int.reduceToNat, Int.reduceBEq, Int.reduceBNe, Nat.reduceBEq, Nat.reduceDiv, Nat.reduceMod, Int.reduceNeg, Int.reduceEq, go_sem], by simp -implicitDefEqProofs (disch := omega) only [go_sem, Nat.reduceAdd, Nat.reduceMul, Nat.reduceSub, Nat.reduceEqDiff, Nat.reduceLT, Nat.reduceLeDiff, reduceIte, reduceCtorEq, Int.reduceLE, Int.reduceLT, Int.reduceGE, Int.reduceGT, Int.reduceAdd, Int.reduceSub, Int.reduceMul, Int.reduceToNat, Int.reduceBEq, Int.reduceBNe, Nat.reduceBEq, Nat.reduceDiv, Nat.reduceMod, Int.reduceNeg, Int.reduceEq, go_sem]⟩ ?_
    rintro ⟨j, q, C⟩ ⟨t, σ⟩ ⟨hqj, hj, hC, ht, hd, h0, h1, h5, h6, s0⟩
    simp only at hqj hj hC ht hd h0 h1 h5 h6 s0
    simp -implicitDefEqProofs (disch := omega) only [go_sem, Nat.reduceAdd, Nat.reduceMul, Nat.reduceSub, Nat.reduceEqDiff, Nat.reduceLT, Nat.reduceLeDiff, reduceIte, reduceCtorEq, Int.reduceLE, Int.reduceLT, Int.reduceGE, Int.reduceGT, Int.reduceAdd, Int.reduceSub, Int.reduceMul, Int.reduceToNat, Int.reduceBEq, Int.reduceBNe, Nat.reduceBEq, Nat.reduceDiv, Nat.reduceMod, Int.reduceNeg, Int.reduceEq, lp24_0, h0, h6]
    refine condC_dec (fun hc => ?_) (fun hc => ?_)
    · have hgl : gt C j = gt l j := by
        have := congrArg (fun x => x[0]?) hd
        simp only [List.getElem?_drop, Nat.add_zero] at this
        rw [gt_eq hc, gt_eq (by omega)]
        rw [List.getElem?_eq_getElem (by omega), List.getElem?_eq_getElem hc] at this
        exact Option.some.inj this
      have hE := eqW_ok (gt C j) W
      have hs := del_succ l W j hc
      by_cases hx : gt C j = W
      · rw [hx] at hE
        simp -implicitDefEqProofs (disch := omega) only [go_sem, Nat.reduceAdd, Nat.reduceMul, Nat.reduceSub, Nat.reduceEqDiff, Nat.reduceLT, Nat.reduceLeDiff, reduceIte, reduceCtorEq, Int.reduceLE, Int.reduceLT, Int.reduceGE, Int.reduceGT, Int.reduceAdd, Int.reduceSub, Int.reduceMul, Int.reduceToNat, Int.reduceBEq, Int.reduceBNe, Nat.reduceBEq, Nat.reduceDiv, Nat.reduceMod, Int.reduceNeg, Int.reduceEq, h0, h1, h5, h6, s0, iv, callV_T at25, hE, hx]
        refine ⟨⟨j + 1, q, C⟩, by simp only; omega, by simp only; omega, by simp only; omega, hC, ?_, ?_, by simp -implicitDefEqProofs (disch := omega) only [go_sem, Nat.reduceAdd, Nat.reduceMul, Nat.reduceSub, Nat.reduceEqDiff, Nat.reduceLT, Nat.reduceLeDiff, reduceIte, reduceCtorEq, Int.reduceLE, Int.reduceLT, Int.reduceGE, Int.reduceGT, Int.reduceAdd, Int.reduceSub, Int.reduceMul, Int.reduceToNat, Int.reduceBEq, Int.reduceBNe, Nat.reduceBEq, Nat.reduceDiv, Nat.reduceMod, Int.reduceNeg, Int.reduceEq, h0], by simp -implicitDefEqProofs (disch := omega) only [go_sem, Nat.reduceAdd, Nat.reduceMul, Nat.reduceSub, Nat.reduceEqDiff, Nat.reduceLT, Nat.reduceLeDiff, reduceIte, reduceCtorEq, Int.reduceLE, Int.reduceLT, Int.reduceGE, Int.reduceGT, Int.reduceAdd, Int.reduceSub, Int.reduceMul, Int.reduceToNat, Int.reduceBEq, Int.reduceBNe, Nat.reduceBEq, Nat.reduceDiv, Nat.reduceMod, Int.reduceNeg, Int.reduceEq, h1], by simp -implicitDefEqProofs (disch := omega) only [go_sem, Nat.reduceAdd, Nat.reduceMul, Nat.reduceSub, Nat.reduceEqDiff, Nat.reduceLT, Nat.reduceLeDiff, reduceIte, reduceCtorEq, Int.reduceLE, Int.reduceLT, Int.reduceGE, Int.reduceGT, Int.reduceAdd, Int.reduceSub, Int.reduceMul, Int.reduceToNat, Int.reduceBEq, Int.reduceBNe, Nat.reduceBEq, Nat.reduceDiv, Nat.reduceMod, Int.reduceNeg, Int.reduceEq, h5], by simp -implicitDefEqProofs (disch := omega) only [go_sem, Nat.reduceAdd, Nat.reduceMul, Nat.reduceSub, Nat.reduceEqDiff, Nat.reduceLT, Nat.reduceLeDiff, reduceIte, reduceCtorEq, Int.reduceLE, Int.reduceLT, Int.reduceGE, Int.reduceGT, Int.reduceAdd, Int.reduceSub, Int.reduceMul, Int.reduceToNat, Int.reduceBEq, Int.reduceBNe, Nat.reduceBEq, Nat.reduceDiv, Nat.reduceMod, Int.reduceNeg, Int.reduceEq, go_sem], by simp -implicitDefEqProofs (disch := omega) only [go_sem, Nat.reduceAdd, Nat.reduceMul, Nat.reduceSub, Nat.reduceEqDiff, Nat.reduceLT, Nat.reduceLeDiff, reduceIte, reduceCtorEq, Int.reduceLE, Int.reduceLT, Int.reduceGE, Int.reduceGT, Int.reduceAdd, Int.reduceSub, Int.reduceMul, Int.reduceToNat, Int.reduceBEq, Int.reduceBNe, Nat.reduceBEq, Nat.reduceDiv, Nat.reduceMod, Int.reduceNeg, Int.reduceEq, s0]⟩
        · simp only
          rw [hs, if_pos (by rw [← hgl]; exact hx)]
          exact ht
        · simp only
          rw [← List.drop_drop, hd, List.drop_drop]
      · simp -implicitDefEqProofs (disch := omega) only [go_sem, Nat.reduceAdd, Nat.reduceMul, Nat.reduceSub, Nat.reduceEqDiff, Nat.reduceLT, Nat.reduceLeDiff, reduceIte, reduceCtorEq, Int.reduceLE, Int.reduceLT, Int.reduceGE, Int.reduceGT, Int.reduceAdd, Int.reduceSub, Int.reduceMul, Int.reduceToNat, Int.reduceBEq, Int.reduceBNe, Nat.reduceBEq, Nat.reduceDiv, Nat.reduceMod, Int.reduceNeg, Int.reduceEq, h0, h1, h5, h6, s0, iv, callV_T at25, hE, hx]
        refine ⟨⟨j + 1, q + 1, C.set q (gt C j)⟩, by simp only; omega, by simp only; omega, by simp only; omega, by simp [hC], ?_, ?_, by simp -implicitDefEqProofs (disch := omega) only [go_sem, Nat.reduceAdd, Nat.reduceMul, Nat.reduceSub, Nat.reduceEqDiff, Nat.reduceLT, Nat.reduceLeDiff, reduceIte, reduceCtorEq, Int.reduceLE, Int.reduceLT, Int.reduceGE, Int.reduceGT, Int.reduceAdd, Int.reduceSub, Int.reduceMul, Int.reduceToNat, Int.reduceBEq, Int.reduceBNe, Nat.reduceBEq, Nat.reduceDiv, Nat.reduceMod, Int.reduceNeg, Int.reduceEq, h0], by simp -implicitDefEqProofs (disch := omega) only [go_sem, Nat.reduceAdd, Nat.reduceMul, Nat.reduceSub, Nat.reduceEqDiff, Nat.reduceLT, Nat.reduceLeDiff, reduceIte, reduceCtorEq, Int.reduceLE, Int.reduceLT, Int.reduceGE, Int.reduceGT, Int.reduceAdd, Int.reduceSub, Int.reduceMul, Int.reduceToNat, Int.reduceBEq, Int.reduceBNe, Nat.reduceBEq, Nat.reduceDiv, Nat.reduceMod, Int.reduceNeg, Int.reduceEq, h1], by simp -implicitDefEqProofs (disch := omega) only [go_sem, Nat.reduceAdd, Nat.reduceMul, Nat.reduceSub, Nat.reduceEqDiff, Nat.reduceLT, Nat.reduceLeDiff, reduceIte, reduceCtorEq, Int.reduceLE, Int.reduceLT, Int.reduceGE, Int.reduceGT, Int.reduceAdd, Int.reduceSub, Int.reduceMul, Int.reduceToNat, Int.reduceBEq, Int.reduceBNe, Nat.reduceBEq, Nat.reduceDiv, Nat.reduceMod, Int.reduceNeg, Int.reduceEq, go_sem], by simp -implicitDefEqProofs (disch := omega) only [go_sem, Nat.reduceAdd, Nat.reduceMul, Nat.reduceSub, Nat.reduceEqDiff, Nat.reduceLT, Nat.reduceLeDiff, reduceIte, reduceCtorEq, Int.reduceLE, Int.reduceLT, Int.reduceGE, Int.reduceGT, Int.reduceAdd, Int.reduceSub, Int.reduceMul, Int.reduceToNat, Int.reduceBEq, Int.reduceBNe, Nat.reduceBEq, Nat.reduceDiv, Nat.reduceMod, Int.reduceNeg, Int.reduceEq, go_sem], by simp -implicitDefEqProofs (disch := omega) only [go_sem, Nat.reduceAdd, Nat.reduceMul, Nat.reduceSub, Nat.reduceEqDiff, Nat.reduceLT, Nat.reduceLeDiff, reduceIte, reduceCtorEq, Int.reduceLE, Int.reduceLT, Int.reduceGE, Int.reduceGT, Int.reduceAdd, Int.reduceSub, Int.reduceMul, Int.reduceToNat, Int.reduceBEq, Int.reduceBNe, Nat.reduceBEq, Nat.reduceDiv, Nat.reduceMod, Int.reduceNeg, Int.reduceEq, s0, List.map_set]; rfl⟩
        · simp only
          rw [hs, if_neg (by rw [← hgl]; exact hx), ← hgl, ← ht, List.take_succ_eq_append_getElem (by simp; omega), List.take_set_of_le (by omega)]
          simp
        · simp only
          rw [List.drop_set_of_lt (by omega), ← List.drop_drop, hd, List.drop_drop]
    · obtain rfl : j = l.length := by omega
      rw [take_all (Nat.le_refl _)] at ht
      have hlq : (del l W).length = q := by rw [← ht]; simp; omega
      have hsl : (List.map iv C).length = l.length := by simp [hC]
      have hrl : ((List.replicate (l.length - q) [V.int .i64 0]).flatten).length = l.length - q := by simp
      have hspl : (splice (List.map iv C) q (List.replicate (l.length - q) [V.int .i64 0]).flatten).length = l.length := by rw [splice_length _ _ _ (by omega), hsl]
      have htk : List.take q (splice (List.map iv C) q (List.replicate (l.length - q) [V.int .i64 0]).flatten) = (del l W).map iv := by
        unfold splice
        rw [List.append_assoc, List.take_append_of_le_length (by simp; omega), List.take_take, Nat.min_self, ← ht, List.map_take]
      simp -implicitDefEqProofs (disch := omega) only [go_sem, Nat.reduceAdd, Nat.reduceMul, Nat.reduceSub, Nat.reduceEqDiff, Nat.reduceLT, Nat.reduceLeDiff, reduceIte, reduceCtorEq, Int.reduceLE, Int.reduceLT, Int.reduceGE, Int.reduceGT, Int.reduceAdd, Int.reduceSub, Int.reduceMul, Int.reduceToNat, Int.reduceBEq, Int.reduceBNe, Nat.reduceBEq, Nat.reduceDiv, Nat.reduceMod, Int.reduceNeg, Int.reduceEq, h0, h5, s0, hspl, htk, hlq]
theorem Without_ok (l : List Nat) (W : Nat) (hl : l.length ≤ 16) : Gf fns 17 [.sl .ro l.length (l.map iv), .int .i64 (W : Int)] = some (.osl 1 (del l W).length ((del l W).map iv), []) := by
  have hc := Clone_ok l hl
  have hd := Del_ok l W hl
  have hdl := del_len l W
  have hr : ((del l W).map iv).any (hasRo 7) = false := iv_ro _
  refine Gf_start rfl rfl ?_
  simp -implicitDefEqProofs (disch := omega) only [go_sem, Nat.reduceAdd, Nat.reduceMul, Nat.reduceSub, Nat.reduceEqDiff, Nat.reduceLT, Nat.reduceLeDiff, reduceIte, reduceCtorEq, Int.reduceLE, Int.reduceLT, Int.reduceGE, Int.reduceGT, Int.reduceAdd, Int.reduceSub, Int.reduceMul, Int.reduceToNat, Int.reduceBEq, Int.reduceBNe, Nat.reduceBEq, Nat.reduceDiv, Nat.reduceMod, Int.reduceNeg, Int.reduceEq, hc, hd, iv_ro]
theorem Has_ok (A W : Nat) : Gf fns 15 [.sl .ro (listN A).length ((listN A).map iv), .int .i64 (W : Int)] = some (.bool (decide (W ∈ listN A)), []) := by
  obtain ⟨i, b1, _⟩ := Bs_ok (listN A) W (listN_sorted A) (listN_len A)
  refine Gf_start rfl rfl ?_
  simp -implicitDefEqProofs (disch := omega) only [go_sem, Nat.reduceAdd, Nat.reduceMul, Nat.reduceSub, Nat.reduceEqDiff, Nat.reduceLT, Nat.reduceLeDiff, reduceIte, reduceCtorEq, Int.reduceLE, Int.reduceLT, Int.reduceGE, Int.reduceGT, Int.reduceAdd, Int.reduceSub, Int.reduceMul, Int.reduceToNat, Int.reduceBEq, Int.reduceBNe, Nat.reduceBEq, Nat.reduceDiv, Nat.reduceMod, Int.reduceNeg, Int.reduceEq, b1]
theorem lists_law (n who : Int) : fnA (tabW fns) [.bor, .bor] ir6 [.int .i64 n, .int .i64 who] (fun p => p = (.bool true, [])) := by
  generalize hA : (n % 65536).toNat = A
  generalize hW : (who % 16).toNat = W
  have hA2 : A < 65536 := by omega
  have hW2 : W < 16 := by omega
  have hpw : 2 ^ W < 65536 := Nat.pow_lt_pow_right (n := 16) (by decide) hW2
  have a1 : Go.bits .and .i64 n 65535 = (A : Int) := by rw [and_16, hA]
  have a2 : Go.bits .and .i64 who 15 = (W : Int) := by rw [and_4, hW]
  have a6 : IntKind.u64.wrap (W : Int) = (W : Int) := wn_u64 (by omega)
  have a7 : min W 64 = W := by omega
  have a8 : IntKind.i64.wrap ((2 : Int) ^ W) = ((2 ^ W : Nat) : Int) := by rw [show ((2 : Int) ^ W) = ((2 ^ W : Nat) : Int) by simp]; generalize 2 ^ W = X at hpw; exact wrapi64_id (by omega) (by omega)
  have a9 : Go.bits .or .i64 (A : Int) ((2 ^ W : Nat) : Int) = ((A ||| 2 ^ W : Nat) : Int) := bits_or_nat (by omega) (by omega)
  have a10 : Go.bits .andNot .i64 (A : Int) ((2 ^ W : Nat) : Int) = ((A ^^^ (A &&& 2 ^ W) : Nat) : Int) := bits_andNot_nat (by omega) (by omega)
  have h1 := list_ok A (by omega)
  have hO : A ||| 2 ^ W < 65536 := Nat.or_lt_two_pow (n := 16) hA2 hpw
  have hX : A ^^^ (A &&& 2 ^ W) < 65536 := Nat.xor_lt_two_pow (n := 16) hA2 (Nat.lt_of_le_of_lt Nat.and_le_left hA2)
  have h2 := list_ok (A ||| 2 ^ W) (by omega)
  have h3 := list_ok (A ^^^ (A &&& 2 ^ W)) (by omega)
  have h4 := Has_ok A W
  have h5 := With_ok A W hW2
  have h6 := Without_ok (listN A) W (listN_len A)
  have e6 : del (listN A) W = listN (A ^^^ (A &&& 2 ^ W)) := listN_del (del_bits A W)
  rw [e6] at h6
  have s1 := same_ok (listN (A ||| 2 ^ W)) (listN (A ||| 2 ^ W)) (listN_len _) (listN_len _)
  have s2 := same_ok (listN (A ^^^ (A &&& 2 ^ W))) (listN (A ^^^ (A &&& 2 ^ W))) (listN_len _) (listN_len _)
  have s3 := same_ok (listN A) (listN A) (listN_len _) (listN_len _)
  have hb : decide (W ∈ listN A) = decide (A / 2 ^ W % 2 = 1) := by
    rw [dec_bit]
    by_cases hm : W ∈ listN A
    · rw [decide_eq_true hm, ((mem_listN A W).1 hm).2]
    · rw [decide_eq_false hm]
      cases hb : A.testBit W
      · rfl
      · exact absurd ((mem_listN A W).2 ⟨hW2, hb⟩) hm
  rw [hb] at h4
  refine fnA_start rfl ?_
  simp -implicitDefEqProofs (disch := omega) only [go_sem, Nat.reduceAdd, Nat.reduceMul, Nat.reduceSub, Nat.reduceEqDiff, Nat.reduceLT, Nat.reduceLeDiff, reduceIte, reduceCtorEq, Int.reduceLE, Int.reduceLT, Int.reduceGE, Int.reduceGT, Int.reduceAdd, Int.reduceSub, Int.reduceMul, Int.reduceToNat, Int.reduceBEq, Int.reduceBNe, Nat.reduceBEq, Nat.reduceDiv, Nat.reduceMod, Int.reduceNeg, Int.reduceEq, a1, a2, a6, a7, a8, a9, a10, and_1n, Int.one_mul, h1, h2, h3, h4, h5, h6, s1, s2, s3, iv_ro, awake_ok]
theorem uInt_l : Try.prog.underlying 3 = some (.int .i64) := by kernel_rfl
theorem confLists_main (xs : List V) (h : FitsA Try.prog 8 [3, 3] xs) : fnA (tabW fns) [.bor, .bor] ir6 xs (fun p => p = (.bool true, [])) := by
  obtain ⟨x, ws, rfl, h1, h⟩ := fitsA_s h
  obtain ⟨y, ws, rfl, h2, h⟩ := fitsA_s h
  obtain rfl := fitsA_0 h
  obtain ⟨n, rfl, _⟩ := fit_int uInt_l h1
  obtain ⟨m, rfl, _⟩ := fit_int uInt_l h2
  exact lists_law n m
end Go.Vm.Ytihoclophfldjaa
