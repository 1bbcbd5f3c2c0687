/- Of two lists of which one may follow the other, any more than half of the one and any more than half of the other have one in common. -/
import Derived.Test.YtihoclophfldjaaConfB
set_option linter.unusedSectionVars false
set_option linter.unusedSimpArgs false
set_option linter.unusedVariables false
set_option maxHeartbeats 1000000
set_option maxRecDepth 10000
namespace Go.Vm
def meetS (A B P Q : Nat) (i : Nat) (s : St) : Prop := i ≤ 16 ∧ s.t 7 = .int .i64 (A : Int) ∧ s.t 8 = .int .i64 (B : Int) ∧ s.t 9 = .int .i64 (P : Int) ∧ s.t 10 = .int .i64 (Q : Int) ∧ s.t 11 = .mp 2112 1 ∧ s.t 12 = .mp 2176 1 ∧ s.t 13 = .int .i64 (i : Int) ∧
  s.σ 2112 = ⟨1, .rw, false, [.mcell (mapB P i)]⟩ ∧ s.σ 2176 = ⟨1, .rw, false, [.mcell (mapB Q i)]⟩
theorem dec_bit (p i : Nat) : decide (p / 2 ^ i % 2 = 1) = p.testBit i := Nat.testBit_eq_decide_div_mod_eq.symm
theorem iv_ro {d : Nat} (l : List Nat) : (l.map iv).any (hasRo (d + 1)) = false := by induction l with | nil => rfl | cons x l ih => simp [ih, iv, hasRo]
theorem listN_lt (n : Nat) : ∀ x ∈ listN n, x < 16 := fun x hx => by simp [listN] at hx; exact hx.1
theorem listN_len (n : Nat) : (listN n).length ≤ 16 := Nat.le_trans (List.length_filter_le _ _) (by simp)
theorem most_sub {a p : Nat} (h : ∀ i, p.testBit i = true → a.testBit i = true) : ((listN a).countP fun x => p.testBit x) = (listN p).length := count_sub a p (List.range 16) h
end Go.Vm
namespace Go.Vm.Ytihoclophfldjaa
open Go.Proofs
theorem meets_law (n who h0 h1 : Int) : fnA (tabW fns) [.bor, .bor, .bor] ir4 [.int .i64 n, .int .i64 who, .agg [.int .i64 h0, .int .i64 h1]] (fun p => p = (.bool true, [])) := by
  generalize hA : (n % 65536).toNat = A
  generalize hW : (who % 16).toNat = W
  have hA2 : A < 65536 := by omega
  have hW2 : W < 16 := by omega
  have hB2 : A ^^^ 2 ^ W < 65536 := Nat.xor_lt_two_pow (n := 16) hA2 (Nat.pow_lt_pow_right (by decide) hW2)
  have hpw : 2 ^ W < 65536 := Nat.pow_lt_pow_right (n := 16) (by decide) hW2
  generalize hB : A ^^^ 2 ^ W = B at hB2
  generalize hP : (h0 % 65536).toNat &&& A = P
  generalize hQ : (h1 % 65536).toNat &&& B = Q
  have a1 : Go.bits .and .i64 n 65535 = (A : Int) := by rw [and_16, hA]
  have a2 : Go.bits .and .i64 who 15 = (W : Int) := by rw [and_4, hW]
  have a3 : Go.bits .xor .i64 (A : Int) ((2 ^ W : Nat) : Int) = (B : Int) := by rw [bits_xor_nat (by omega) (by omega), hB]
  have a4 : Go.bits .and .i64 h0 (A : Int) = (P : Int) := by rw [bits_and_nat h0 (by omega), hP]
  have a5 : Go.bits .and .i64 h1 (B : Int) = (Q : Int) := by rw [bits_and_nat h1 (by omega), hQ]
  have a6 : IntKind.u64.wrap (W : Int) = (W : Int) := wn_u64 (by omega)
  have a7 : min W 64 = W := by omega
  have a8 : IntKind.i64.wrap ((2 : Int) ^ W) = ((2 ^ W : Nat) : Int) := by rw [show ((2 : Int) ^ W) = ((2 ^ W : Nat) : Int) by simp]; generalize 2 ^ W = X at hpw; exact wrapi64_id (by omega) (by omega)
  have hP2 : P ≤ A := by rw [← hP]; exact Nat.and_le_right
  have hQ2 : Q ≤ B := by rw [← hQ]; exact Nat.and_le_right
  have sP : ∀ i, P.testBit i = true → A.testBit i = true := fun i h => by rw [← hP, Nat.testBit_and, Bool.and_eq_true] at h; exact h.2
  have sQ : ∀ i, Q.testBit i = true → B.testBit i = true := fun i h => by rw [← hQ, Nat.testBit_and, Bool.and_eq_true] at h; exact h.2
  refine fnA_start rfl ?_
  simp -implicitDefEqProofs (disch := omega) only [go_sem, Nat.reduceAdd, Nat.reduceMul, Nat.reduceSub, Nat.reduceEqDiff, Nat.reduceLT, Nat.reduceLeDiff, reduceIte, reduceCtorEq, Int.reduceLE, Int.reduceLT, Int.reduceGE, Int.reduceGT, Int.reduceAdd, Int.reduceSub, Int.reduceMul, Int.reduceToNat, Int.reduceBEq, Int.reduceBNe, Nat.reduceBEq, Nat.reduceDiv, Nat.reduceMod, Int.reduceNeg, Int.reduceEq, a1, a2, a6, a7, a8, a3, Int.one_mul]
  refine wp_draw_E ?_
  simp -implicitDefEqProofs (disch := omega) only [go_sem, Nat.reduceAdd, Nat.reduceMul, Nat.reduceSub, Nat.reduceEqDiff, Nat.reduceLT, Nat.reduceLeDiff, reduceIte, reduceCtorEq, Int.reduceLE, Int.reduceLT, Int.reduceGE, Int.reduceGT, Int.reduceAdd, Int.reduceSub, Int.reduceMul, Int.reduceToNat, Int.reduceBEq, Int.reduceBNe, Nat.reduceBEq, Nat.reduceDiv, Nat.reduceMod, Int.reduceNeg, Int.reduceEq, a4, a5]
  refine wp_loopS (meetS A B P Q) (fun i => 16 - i) 0 ⟨by omega, by simp -implicitDefEqProofs (disch := omega) only [go_sem, Nat.reduceAdd, Nat.reduceMul, Nat.reduceSub, Nat.reduceEqDiff, Nat.reduceLT, Nat.reduceLeDiff, reduceIte, reduceCtorEq, Int.reduceLE, Int.reduceLT, Int.reduceGE, Int.reduceGT, Int.reduceAdd, Int.reduceSub, Int.reduceMul, Int.reduceToNat, Int.reduceBEq, Int.reduceBNe, Nat.reduceBEq, Nat.reduceDiv, Nat.reduceMod, Int.reduceNeg, Int.reduceEq, go_sem], by simp -implicitDefEqProofs (disch := omega) only [go_sem, Nat.reduceAdd, Nat.reduceMul, Nat.reduceSub, Nat.reduceEqDiff, Nat.reduceLT, Nat.reduceLeDiff, reduceIte, reduceCtorEq, Int.reduceLE, Int.reduceLT, Int.reduceGE, Int.reduceGT, Int.reduceAdd, Int.reduceSub, Int.reduceMul, Int.reduceToNat, Int.reduceBEq, Int.reduceBNe, Nat.reduceBEq, Nat.reduceDiv, Nat.reduceMod, Int.reduceNeg, Int.reduceEq, go_sem], by simp -implicitDefEqProofs (disch := omega) only [go_sem, Nat.reduceAdd, Nat.reduceMul, Nat.reduceSub, Nat.reduceEqDiff, Nat.reduceLT, Nat.reduceLeDiff, reduceIte, reduceCtorEq, Int.reduceLE, Int.reduceLT, Int.reduceGE, Int.reduceGT, Int.reduceAdd, Int.reduceSub, Int.reduceMul, Int.reduceToNat, Int.reduceBEq, Int.reduceBNe, Nat.reduceBEq, Nat.reduceDiv, Nat.reduceMod, Int.reduceNeg, Int.reduceEq, go_sem], by simp -implicitDefEqProofs (disch := omega) only [go_sem, Nat.reduceAdd, Nat.reduceMul, Nat.reduceSub, Nat.reduceEqDiff, Nat.reduceLT, Nat.reduceLeDiff, reduceIte, reduceCtorEq, Int.reduceLE, Int.reduceLT, Int.reduceGE, Int.reduceGT, Int.reduceAdd, Int.reduceSub, Int.reduceMul, Int.reduceToNat, Int.reduceBEq, Int.reduceBNe, Nat.reduceBEq, Nat.reduceDiv, Nat.reduceMod, Int.reduceNeg, Int.reduceEq, go_sem], by simp -implicitDefEqProofs (disch := omega) only [go_sem, Nat.reduceAdd, Nat.reduceMul, Nat.reduceSub, Nat.reduceEqDiff, Nat.reduceLT, Nat.reduceLeDiff, reduceIte, reduceCtorEq, Int.reduceLE, Int.reduceLT, Int.reduceGE, Int.reduceGT, Int.reduceAdd, Int.reduceSub, Int.reduceMul, Int.reduceToNat, Int.reduceBEq, Int.reduceBNe, Nat.reduceBEq, Nat.reduceDiv, Nat.reduceMod, Int.reduceNeg, Int.reduceEq, go_sem], by simp -implicitDefEqProofs (disch := omega) only [go_sem, Nat.reduceAdd, Nat.reduceMul, Nat.reduceSub, Nat.reduceEqDiff, Nat.reduceLT, Nat.reduceLeDiff, reduceIte, reduceCtorEq, Int.reduceLE, Int.reduceLT, Int.reduceGE, Int.reduceGT, Int.reduceAdd, Int.reduceSub, Int.reduceMul, Int.reduceToNat, Int.reduceBEq, Int.reduceBNe, Nat.reduceBEq, Nat.reduceDiv, Nat.reduceMod, Int.reduceNeg, Int.reduceEq, go_sem], by simp -implicitDefEqProofs (disch := omega) only [go_sem, Nat.reduceAdd, Nat.reduceMul, Nat.reduceSub, Nat.reduceEqDiff, Nat.reduceLT, Nat.reduceLeDiff, reduceIte, reduceCtorEq, Int.reduceLE, Int.reduceLT, Int.reduceGE, Int.reduceGT, Int.reduceAdd, Int.reduceSub, Int.reduceMul, Int.reduceToNat, Int.reduceBEq, Int.reduceBNe, Nat.reduceBEq, Nat.reduceDiv, Nat.reduceMod, Int.reduceNeg, Int.reduceEq, go_sem], by simp -implicitDefEqProofs (disch := omega) only [go_sem, Nat.reduceAdd, Nat.reduceMul, Nat.reduceSub, Nat.reduceEqDiff, Nat.reduceLT, Nat.reduceLeDiff, reduceIte, reduceCtorEq, Int.reduceLE, Int.reduceLT, Int.reduceGE, Int.reduceGT, Int.reduceAdd, Int.reduceSub, Int.reduceMul, Int.reduceToNat, Int.reduceBEq, Int.reduceBNe, Nat.reduceBEq, Nat.reduceDiv, Nat.reduceMod, Int.reduceNeg, Int.reduceEq, mapB]; rfl, by simp -implicitDefEqProofs (disch := omega) only [go_sem, Nat.reduceAdd, Nat.reduceMul, Nat.reduceSub, Nat.reduceEqDiff, Nat.reduceLT, Nat.reduceLeDiff, reduceIte, reduceCtorEq, Int.reduceLE, Int.reduceLT, Int.reduceGE, Int.reduceGT, Int.reduceAdd, Int.reduceSub, Int.reduceMul, Int.reduceToNat, Int.reduceBEq, Int.reduceBNe, Nat.reduceBEq, Nat.reduceDiv, Nat.reduceMod, Int.reduceNeg, Int.reduceEq, mapB]; rfl⟩ ?_
  rintro i ⟨t, σ⟩ ⟨hi, h7, h8, h9, h10, h11, h12, h13, s1, s2⟩
  simp only at h7 h8 h9 h10 h11 h12 h13 s1 s2
  simp -implicitDefEqProofs (disch := omega) only [go_sem, Nat.reduceAdd, Nat.reduceMul, Nat.reduceSub, Nat.reduceEqDiff, Nat.reduceLT, Nat.reduceLeDiff, reduceIte, reduceCtorEq, Int.reduceLE, Int.reduceLT, Int.reduceGE, Int.reduceGT, Int.reduceAdd, Int.reduceSub, Int.reduceMul, Int.reduceToNat, Int.reduceBEq, Int.reduceBNe, Nat.reduceBEq, Nat.reduceDiv, Nat.reduceMod, Int.reduceNeg, Int.reduceEq, lp4_0, h13]
  refine condC_dec (fun hc => ?_) (fun hc => ?_)
  · have hm : min i 64 = i := by omega
    have hw : IntKind.u64.wrap (i : Int) = (i : Int) := wn_u64 (by omega)
    have p1 := mput_mapB P i
    have p2 := mput_mapB Q i
    simp -implicitDefEqProofs (disch := omega) only [go_sem, Nat.reduceAdd, Nat.reduceMul, Nat.reduceSub, Nat.reduceEqDiff, Nat.reduceLT, Nat.reduceLeDiff, reduceIte, reduceCtorEq, Int.reduceLE, Int.reduceLT, Int.reduceGE, Int.reduceGT, Int.reduceAdd, Int.reduceSub, Int.reduceMul, Int.reduceToNat, Int.reduceBEq, Int.reduceBNe, Nat.reduceBEq, Nat.reduceDiv, Nat.reduceMod, Int.reduceNeg, Int.reduceEq, h9, h10, h11, h12, h13, s1, s2, hm, hw, and_1n, dec_bit, p1, p2]
    exact ⟨i + 1, by omega, by omega, by simp -implicitDefEqProofs (disch := omega) only [go_sem, Nat.reduceAdd, Nat.reduceMul, Nat.reduceSub, Nat.reduceEqDiff, Nat.reduceLT, Nat.reduceLeDiff, reduceIte, reduceCtorEq, Int.reduceLE, Int.reduceLT, Int.reduceGE, Int.reduceGT, Int.reduceAdd, Int.reduceSub, Int.reduceMul, Int.reduceToNat, Int.reduceBEq, Int.reduceBNe, Nat.reduceBEq, Nat.reduceDiv, Nat.reduceMod, Int.reduceNeg, Int.reduceEq, h7], by simp -implicitDefEqProofs (disch := omega) only [go_sem, Nat.reduceAdd, Nat.reduceMul, Nat.reduceSub, Nat.reduceEqDiff, Nat.reduceLT, Nat.reduceLeDiff, reduceIte, reduceCtorEq, Int.reduceLE, Int.reduceLT, Int.reduceGE, Int.reduceGT, Int.reduceAdd, Int.reduceSub, Int.reduceMul, Int.reduceToNat, Int.reduceBEq, Int.reduceBNe, Nat.reduceBEq, Nat.reduceDiv, Nat.reduceMod, Int.reduceNeg, Int.reduceEq, h8], by simp -implicitDefEqProofs (disch := omega) only [go_sem, Nat.reduceAdd, Nat.reduceMul, Nat.reduceSub, Nat.reduceEqDiff, Nat.reduceLT, Nat.reduceLeDiff, reduceIte, reduceCtorEq, Int.reduceLE, Int.reduceLT, Int.reduceGE, Int.reduceGT, Int.reduceAdd, Int.reduceSub, Int.reduceMul, Int.reduceToNat, Int.reduceBEq, Int.reduceBNe, Nat.reduceBEq, Nat.reduceDiv, Nat.reduceMod, Int.reduceNeg, Int.reduceEq, h9], by simp -implicitDefEqProofs (disch := omega) only [go_sem, Nat.reduceAdd, Nat.reduceMul, Nat.reduceSub, Nat.reduceEqDiff, Nat.reduceLT, Nat.reduceLeDiff, reduceIte, reduceCtorEq, Int.reduceLE, Int.reduceLT, Int.reduceGE, Int.reduceGT, Int.reduceAdd, Int.reduceSub, Int.reduceMul, Int.reduceToNat, Int.reduceBEq, Int.reduceBNe, Nat.reduceBEq, Nat.reduceDiv, Nat.reduceMod, Int.reduceNeg, Int.reduceEq, h10], by simp -implicitDefEqProofs (disch := omega) only [go_sem, Nat.reduceAdd, Nat.reduceMul, Nat.reduceSub, Nat.reduceEqDiff, Nat.reduceLT, Nat.reduceLeDiff, reduceIte, reduceCtorEq, Int.reduceLE, Int.reduceLT, Int.reduceGE, Int.reduceGT, Int.reduceAdd, Int.reduceSub, Int.reduceMul, Int.reduceToNat, Int.reduceBEq, Int.reduceBNe, Nat.reduceBEq, Nat.reduceDiv, Nat.reduceMod, Int.reduceNeg, Int.reduceEq, h11], by simp -implicitDefEqProofs (disch := omega) only [go_sem, Nat.reduceAdd, Nat.reduceMul, Nat.reduceSub, Nat.reduceEqDiff, Nat.reduceLT, Nat.reduceLeDiff, reduceIte, reduceCtorEq, Int.reduceLE, Int.reduceLT, Int.reduceGE, Int.reduceGT, Int.reduceAdd, Int.reduceSub, Int.reduceMul, Int.reduceToNat, Int.reduceBEq, Int.reduceBNe, Nat.reduceBEq, Nat.reduceDiv, Nat.reduceMod, Int.reduceNeg, Int.reduceEq, h12], by simp -implicitDefEqProofs (disch := omega) only [go_sem, Nat.reduceAdd, Nat.reduceMul, Nat.reduceSub, Nat.reduceEqDiff, Nat.reduceLT, Nat.reduceLeDiff, reduceIte, reduceCtorEq, Int.reduceLE, Int.reduceLT, Int.reduceGE, Int.reduceGT, Int.reduceAdd, Int.reduceSub, Int.reduceMul, Int.reduceToNat, Int.reduceBEq, Int.reduceBNe, Nat.reduceBEq, Nat.reduceDiv, Nat.reduceMod, Int.reduceNeg, Int.reduceEq, go_sem], by simp -implicitDefEqProofs (disch := omega) only [go_sem, Nat.reduceAdd, Nat.reduceMul, Nat.reduceSub, Nat.reduceEqDiff, Nat.reduceLT, Nat.reduceLeDiff, reduceIte, reduceCtorEq, Int.reduceLE, Int.reduceLT, Int.reduceGE, Int.reduceGT, Int.reduceAdd, Int.reduceSub, Int.reduceMul, Int.reduceToNat, Int.reduceBEq, Int.reduceBNe, Nat.reduceBEq, Nat.reduceDiv, Nat.reduceMod, Int.reduceNeg, Int.reduceEq, go_sem], by simp -implicitDefEqProofs (disch := omega) only [go_sem, Nat.reduceAdd, Nat.reduceMul, Nat.reduceSub, Nat.reduceEqDiff, Nat.reduceLT, Nat.reduceLeDiff, reduceIte, reduceCtorEq, Int.reduceLE, Int.reduceLT, Int.reduceGE, Int.reduceGT, Int.reduceAdd, Int.reduceSub, Int.reduceMul, Int.reduceToNat, Int.reduceBEq, Int.reduceBNe, Nat.reduceBEq, Nat.reduceDiv, Nat.reduceMod, Int.reduceNeg, Int.reduceEq, go_sem]⟩
  · obtain rfl : i = 16 := by omega
    have m1 := Most_ok .ro (listN A) P (listN_len A) (listN_lt A)
    have m2 := Most_ok .ro (listN B) Q (listN_len B) (listN_lt B)
    rw [most_sub sP] at m1
    rw [most_sub sQ] at m2
    have l1 := list_ok A (by omega)
    have l2 := list_ok B (by omega)
    have b1 := bits_ok P (by omega)
    have b2 := bits_ok Q (by omega)
    have b3 := bits_ok A (by omega)
    have b4 := bits_ok B (by omega)
    have n1 := listN_len A
    have n2 := listN_len B
    have n3 := listN_len P
    have n4 := listN_len Q
    have z1 := listN_zero A hA2
    have z2 := listN_zero B hB2
    simp -implicitDefEqProofs (disch := omega) only [go_sem, Nat.reduceAdd, Nat.reduceMul, Nat.reduceSub, Nat.reduceEqDiff, Nat.reduceLT, Nat.reduceLeDiff, reduceIte, reduceCtorEq, Int.reduceLE, Int.reduceLT, Int.reduceGE, Int.reduceGT, Int.reduceAdd, Int.reduceSub, Int.reduceMul, Int.reduceToNat, Int.reduceBEq, Int.reduceBNe, Nat.reduceBEq, Nat.reduceDiv, Nat.reduceMod, Int.reduceNeg, Int.reduceEq, h7, h8, l1, l2, h11, h12, s1, s2, m1, m2, awake_ok, iv_ro]
    have hmeet : (listN A).length < 2 * (listN P).length → (listN B).length < 2 * (listN Q).length → ¬ P &&& Q = 0 := fun x y => meets A P Q W hW2 sP (by rw [hB]; exact sQ) x (by rw [hB]; exact y)
    have hPQ : Go.bits .and .i64 (P : Int) (Q : Int) = ((P &&& Q : Nat) : Int) := by
      rw [bits_and_nat _ (by omega)]
      congr 2
      omega
    generalize (listN A).length = a at *
    generalize (listN B).length = b at *
    generalize (listN P).length = p at *
    generalize (listN Q).length = q at *
    by_cases hA0 : A = 0
    · have ha0 : a = 0 := by rw [z1]; exact hA0
      by_cases hB0 : B = 0
      · have hb0 : b = 0 := by rw [z2]; exact hB0
        simp -implicitDefEqProofs (disch := omega) only [go_sem, Nat.reduceAdd, Nat.reduceMul, Nat.reduceSub, Nat.reduceEqDiff, Nat.reduceLT, Nat.reduceLeDiff, reduceIte, reduceCtorEq, Int.reduceLE, Int.reduceLT, Int.reduceGE, Int.reduceGT, Int.reduceAdd, Int.reduceSub, Int.reduceMul, Int.reduceToNat, Int.reduceBEq, Int.reduceBNe, Nat.reduceBEq, Nat.reduceDiv, Nat.reduceMod, Int.reduceNeg, Int.reduceEq, h7, h8, h9, h10, hA0, hB0, ha0, hb0]
      · have hb0 : 0 < b := by apply Nat.pos_of_ne_zero; intro h; exact hB0 (z2 ▸ h)
        by_cases hm2 : b < 2 * q
        · have e2 : b / 2 + 1 ≤ q := by omega
          simp -implicitDefEqProofs (disch := omega) only [go_sem, Nat.reduceAdd, Nat.reduceMul, Nat.reduceSub, Nat.reduceEqDiff, Nat.reduceLT, Nat.reduceLeDiff, reduceIte, reduceCtorEq, Int.reduceLE, Int.reduceLT, Int.reduceGE, Int.reduceGT, Int.reduceAdd, Int.reduceSub, Int.reduceMul, Int.reduceToNat, Int.reduceBEq, Int.reduceBNe, Nat.reduceBEq, Nat.reduceDiv, Nat.reduceMod, Int.reduceNeg, Int.reduceEq, h7, h8, h9, h10, hA0, hB0, ha0, hb0, b2, b4, hm2, e2]
        · have e2 : ¬ b / 2 + 1 ≤ q := by omega
          simp -implicitDefEqProofs (disch := omega) only [go_sem, Nat.reduceAdd, Nat.reduceMul, Nat.reduceSub, Nat.reduceEqDiff, Nat.reduceLT, Nat.reduceLeDiff, reduceIte, reduceCtorEq, Int.reduceLE, Int.reduceLT, Int.reduceGE, Int.reduceGT, Int.reduceAdd, Int.reduceSub, Int.reduceMul, Int.reduceToNat, Int.reduceBEq, Int.reduceBNe, Nat.reduceBEq, Nat.reduceDiv, Nat.reduceMod, Int.reduceNeg, Int.reduceEq, h7, h8, h9, h10, hA0, hB0, ha0, hb0, b2, b4, hm2, e2]
    · have ha0 : 0 < a := by apply Nat.pos_of_ne_zero; intro h; exact hA0 (z1 ▸ h)
      by_cases hm1 : a < 2 * p
      · have e1 : a / 2 + 1 ≤ p := by omega
        by_cases hB0 : B = 0
        · have hb0 : b = 0 := by rw [z2]; exact hB0
          simp -implicitDefEqProofs (disch := omega) only [go_sem, Nat.reduceAdd, Nat.reduceMul, Nat.reduceSub, Nat.reduceEqDiff, Nat.reduceLT, Nat.reduceLeDiff, reduceIte, reduceCtorEq, Int.reduceLE, Int.reduceLT, Int.reduceGE, Int.reduceGT, Int.reduceAdd, Int.reduceSub, Int.reduceMul, Int.reduceToNat, Int.reduceBEq, Int.reduceBNe, Nat.reduceBEq, Nat.reduceDiv, Nat.reduceMod, Int.reduceNeg, Int.reduceEq, h7, h8, h9, h10, hA0, hB0, ha0, hb0, b1, b3, hm1, e1]
        · have hb0 : 0 < b := by apply Nat.pos_of_ne_zero; intro h; exact hB0 (z2 ▸ h)
          by_cases hm2 : b < 2 * q
          · have e2 : b / 2 + 1 ≤ q := by omega
            have := hmeet hm1 hm2
            simp -implicitDefEqProofs (disch := omega) only [go_sem, Nat.reduceAdd, Nat.reduceMul, Nat.reduceSub, Nat.reduceEqDiff, Nat.reduceLT, Nat.reduceLeDiff, reduceIte, reduceCtorEq, Int.reduceLE, Int.reduceLT, Int.reduceGE, Int.reduceGT, Int.reduceAdd, Int.reduceSub, Int.reduceMul, Int.reduceToNat, Int.reduceBEq, Int.reduceBNe, Nat.reduceBEq, Nat.reduceDiv, Nat.reduceMod, Int.reduceNeg, Int.reduceEq, h7, h8, h9, h10, hA0, hB0, ha0, hb0, b1, b2, b3, b4, hm1, hm2, e1, e2, hPQ, this]
          · have e2 : ¬ b / 2 + 1 ≤ q := by omega
            simp -implicitDefEqProofs (disch := omega) only [go_sem, Nat.reduceAdd, Nat.reduceMul, Nat.reduceSub, Nat.reduceEqDiff, Nat.reduceLT, Nat.reduceLeDiff, reduceIte, reduceCtorEq, Int.reduceLE, Int.reduceLT, Int.reduceGE, Int.reduceGT, Int.reduceAdd, Int.reduceSub, Int.reduceMul, Int.reduceToNat, Int.reduceBEq, Int.reduceBNe, Nat.reduceBEq, Nat.reduceDiv, Nat.reduceMod, Int.reduceNeg, Int.reduceEq, h7, h8, h9, h10, hA0, hB0, ha0, hb0, b1, b2, b3, b4, hm1, hm2, e1, e2]
      · have e1 : ¬ a / 2 + 1 ≤ p := by omega
        by_cases hB0 : B = 0
        · have hb0 : b = 0 := by rw [z2]; exact hB0
          simp -implicitDefEqProofs (disch := omega) only [go_sem, Nat.reduceAdd, Nat.reduceMul, Nat.reduceSub, Nat.reduceEqDiff, Nat.reduceLT, Nat.reduceLeDiff, reduceIte, reduceCtorEq, Int.reduceLE, Int.reduceLT, Int.reduceGE, Int.reduceGT, Int.reduceAdd, Int.reduceSub, Int.reduceMul, Int.reduceToNat, Int.reduceBEq, Int.reduceBNe, Nat.reduceBEq, Nat.reduceDiv, Nat.reduceMod, Int.reduceNeg, Int.reduceEq, h7, h8, h9, h10, hA0, hB0, ha0, hb0, b1, b3, hm1, e1]
        · have hb0 : 0 < b := by apply Nat.pos_of_ne_zero; intro h; exact hB0 (z2 ▸ h)
          by_cases hm2 : b < 2 * q
          · have e2 : b / 2 + 1 ≤ q := by omega
            simp -implicitDefEqProofs (disch := omega) only [go_sem, Nat.reduceAdd, Nat.reduceMul, Nat.reduceSub, Nat.reduceEqDiff, Nat.reduceLT, Nat.reduceLeDiff, reduceIte, reduceCtorEq, Int.reduceLE, Int.reduceLT, Int.reduceGE, Int.reduceGT, Int.reduceAdd, Int.reduceSub, Int.reduceMul, Int.reduceToNat, Int.reduceBEq, Int.reduceBNe, Nat.reduceBEq, Nat.reduceDiv, Nat.reduceMod, Int.reduceNeg, Int.reduceEq, h7, h8, h9, h10, hA0, hB0, ha0, hb0, b1, b2, b3, b4, hm1, hm2, e1, e2]
          · have e2 : ¬ b / 2 + 1 ≤ q := by omega
            simp -implicitDefEqProofs (disch := omega) only [go_sem, Nat.reduceAdd, Nat.reduceMul, Nat.reduceSub, Nat.reduceEqDiff, Nat.reduceLT, Nat.reduceLeDiff, reduceIte, reduceCtorEq, Int.reduceLE, Int.reduceLT, Int.reduceGE, Int.reduceGT, Int.reduceAdd, Int.reduceSub, Int.reduceMul, Int.reduceToNat, Int.reduceBEq, Int.reduceBNe, Nat.reduceBEq, Nat.reduceDiv, Nat.reduceMod, Int.reduceNeg, Int.reduceEq, h7, h8, h9, h10, hA0, hB0, ha0, hb0, b1, b2, b3, b4, hm1, hm2, e1, e2]
theorem uInt : Try.prog.underlying 3 = some (.int .i64) := by kernel_rfl
theorem confMeets_main (xs : List V) (h : FitsA Try.prog 8 [3, 3, 29] xs) : fnA (tabW fns) ([3, 3, 29].map fun _ => Mode.bor) ir4 xs (fun p => p = (.bool true, [])) := by
  obtain ⟨x, ys, rfl, h1, h⟩ := fitsA_s h
  obtain ⟨y, zs, rfl, h2, h⟩ := fitsA_s h
  obtain ⟨z, ws, rfl, h3, h⟩ := fitsA_s h
  obtain rfl := fitsA_0 h
  obtain ⟨n, rfl, _⟩ := fit_int uInt h1
  obtain ⟨m, rfl, _⟩ := fit_int uInt h2
  have hu : Try.prog.underlying 29 = some (.array 2 3) := by kernel_rfl
  obtain ⟨rs, rfl, hl, hr⟩ := fit_array hu h3
  match rs, hl with
  | [r1, r2], _ =>
    obtain ⟨x1, rfl, _⟩ := fits_int uInt (hr r1 (by simp))
    obtain ⟨x2, rfl, _⟩ := fits_int uInt (hr r2 (by simp))
    exact meets_law n m x1 x2
end Go.Vm.Ytihoclophfldjaa
