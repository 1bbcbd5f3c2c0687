/- Numbers' bytes and checks, of both texts. -/
import Derived.Test.YtnmcmcgbhlgniaaWireB
set_option linter.unusedSectionVars false
set_option linter.unusedSimpArgs false
set_option linter.unusedVariables false
set_option maxHeartbeats 1000000
set_option maxRecDepth 10000
namespace Go.Vm.Ytnmcmcgbhlgniaa
open Go.Proofs
/-- Bytes so far: nil, or a slice of its own. -/
def bytesO (i : Nat) (ids : List Nat) (B : List UInt8) (s : St) : Prop := (B = [] ∧ s.t i = .sl .nil 0 []) ∨ ∃ q gq, q ∈ ids ∧ s.t i = .sli q gq 0 B.length 1 ∧ s.σ q = ⟨gq, .rw, true, B.map u8⟩
def numI (n : UInt64) (b : Int) (m i : Nat) (s : St) : Prop := i ≤ m ∧ s.t 0 = .int .u64 (n.toNat : Int) ∧ s.t 1 = .int .i64 b ∧ s.t 9 = .int .i64 (m : Int) ∧ s.t 10 = .int .i64 (i : Int) ∧ bytesO 5 [1600] (numF n m i) s
theorem Number_ok (n : UInt64) (b : Int) (hb : -9223372036854775808 ≤ b ∧ b < 9223372036854775808) : Gf fns 63 [.int .u64 (n.toNat : Int), .int .i64 b] = some (.str (numB n (bytes8 b)), []) := by
  have hm : min (max b 0) 8 = ((bytes8 b : Nat) : Int) := by unfold bytes8; omega
  have h8 : bytes8 b ≤ 8 := by unfold bytes8; omega
  refine Gf_start rfl rfl ?_
  simp -implicitDefEqProofs (disch := omega) only [go_sem, Nat.reduceAdd, Nat.reduceMul, Nat.reduceSub, Nat.reduceEqDiff, Nat.reduceLT, Nat.reduceLeDiff, reduceIte, reduceCtorEq, Int.reduceLE, Int.reduceLT, Int.reduceGE, Int.reduceGT, Int.reduceAdd, Int.reduceSub, Int.reduceMul, Int.reduceToNat, Int.reduceBEq, Int.reduceBNe, Nat.reduceBEq, Nat.reduceDiv, Nat.reduceMod, Int.reduceNeg, Int.reduceEq, hm]
  refine wp_loopS (numI n b (bytes8 b)) (fun i => bytes8 b - i) 0 ⟨by omega, by simp -implicitDefEqProofs (disch := omega) only [go_sem, Nat.reduceAdd, Nat.reduceMul, Nat.reduceSub, Nat.reduceEqDiff, Nat.reduceLT, Nat.reduceLeDiff, reduceIte, reduceCtorEq, Int.reduceLE, Int.reduceLT, Int.reduceGE, Int.reduceGT, Int.reduceAdd, Int.reduceSub, Int.reduceMul, Int.reduceToNat, Int.reduceBEq, Int.reduceBNe, Nat.reduceBEq, Nat.reduceDiv, Nat.reduceMod, Int.reduceNeg, Int.reduceEq, go_sem], by simp -implicitDefEqProofs (disch := omega) only [go_sem, Nat.reduceAdd, Nat.reduceMul, Nat.reduceSub, Nat.reduceEqDiff, Nat.reduceLT, Nat.reduceLeDiff, reduceIte, reduceCtorEq, Int.reduceLE, Int.reduceLT, Int.reduceGE, Int.reduceGT, Int.reduceAdd, Int.reduceSub, Int.reduceMul, Int.reduceToNat, Int.reduceBEq, Int.reduceBNe, Nat.reduceBEq, Nat.reduceDiv, Nat.reduceMod, Int.reduceNeg, Int.reduceEq, go_sem], by simp -implicitDefEqProofs (disch := omega) only [go_sem, Nat.reduceAdd, Nat.reduceMul, Nat.reduceSub, Nat.reduceEqDiff, Nat.reduceLT, Nat.reduceLeDiff, reduceIte, reduceCtorEq, Int.reduceLE, Int.reduceLT, Int.reduceGE, Int.reduceGT, Int.reduceAdd, Int.reduceSub, Int.reduceMul, Int.reduceToNat, Int.reduceBEq, Int.reduceBNe, Nat.reduceBEq, Nat.reduceDiv, Nat.reduceMod, Int.reduceNeg, Int.reduceEq, hm], by simp -implicitDefEqProofs (disch := omega) only [go_sem, Nat.reduceAdd, Nat.reduceMul, Nat.reduceSub, Nat.reduceEqDiff, Nat.reduceLT, Nat.reduceLeDiff, reduceIte, reduceCtorEq, Int.reduceLE, Int.reduceLT, Int.reduceGE, Int.reduceGT, Int.reduceAdd, Int.reduceSub, Int.reduceMul, Int.reduceToNat, Int.reduceBEq, Int.reduceBNe, Nat.reduceBEq, Nat.reduceDiv, Nat.reduceMod, Int.reduceNeg, Int.reduceEq, go_sem], .inl ⟨rfl, by simp -implicitDefEqProofs (disch := omega) only [go_sem, Nat.reduceAdd, Nat.reduceMul, Nat.reduceSub, Nat.reduceEqDiff, Nat.reduceLT, Nat.reduceLeDiff, reduceIte, reduceCtorEq, Int.reduceLE, Int.reduceLT, Int.reduceGE, Int.reduceGT, Int.reduceAdd, Int.reduceSub, Int.reduceMul, Int.reduceToNat, Int.reduceBEq, Int.reduceBNe, Nat.reduceBEq, Nat.reduceDiv, Nat.reduceMod, Int.reduceNeg, Int.reduceEq, go_sem]⟩⟩ ?_
  rintro i ⟨t, σ⟩ ⟨hi, h0, h1, h9, h10, ho⟩
  simp only at h0 h1 h9 h10
  simp -implicitDefEqProofs (disch := omega) only [go_sem, Nat.reduceAdd, Nat.reduceMul, Nat.reduceSub, Nat.reduceEqDiff, Nat.reduceLT, Nat.reduceLeDiff, reduceIte, reduceCtorEq, Int.reduceLE, Int.reduceLT, Int.reduceGE, Int.reduceGT, Int.reduceAdd, Int.reduceSub, Int.reduceMul, Int.reduceToNat, Int.reduceBEq, Int.reduceBNe, Nat.reduceBEq, Nat.reduceDiv, Nat.reduceMod, Int.reduceNeg, Int.reduceEq, lp63_0, h9, h10]
  refine condC_dec (fun hc => ?_) (fun hc => ?_)
  · have hmb : min b 8 = ((bytes8 b : Nat) : Int) := by unfold bytes8 at hc ⊢; omega
    have hl := numF_len n (bytes8 b) i
    have hX : numF n (bytes8 b) (i + 1) = numF n (bytes8 b) i ++ [(n >>> UInt64.ofNat (8 * (bytes8 b - 1 - i))).toUInt8] := rfl
    generalize numF n (bytes8 b) i = X at *
    rcases ho with ⟨hn, h5⟩ | ⟨q, gq, hq, h5, sq⟩
    · simp only at h5
      simp -implicitDefEqProofs (disch := omega) only [go_sem, Nat.reduceAdd, Nat.reduceMul, Nat.reduceSub, Nat.reduceEqDiff, Nat.reduceLT, Nat.reduceLeDiff, reduceIte, reduceCtorEq, Int.reduceLE, Int.reduceLT, Int.reduceGE, Int.reduceGT, Int.reduceAdd, Int.reduceSub, Int.reduceMul, Int.reduceToNat, Int.reduceBEq, Int.reduceBNe, Nat.reduceBEq, Nat.reduceDiv, Nat.reduceMod, Int.reduceNeg, Int.reduceEq, h0, h1, h10, h5, hmb]
      refine ⟨i + 1, by omega, by omega, by simp -implicitDefEqProofs (disch := omega) only [go_sem, Nat.reduceAdd, Nat.reduceMul, Nat.reduceSub, Nat.reduceEqDiff, Nat.reduceLT, Nat.reduceLeDiff, reduceIte, reduceCtorEq, Int.reduceLE, Int.reduceLT, Int.reduceGE, Int.reduceGT, Int.reduceAdd, Int.reduceSub, Int.reduceMul, Int.reduceToNat, Int.reduceBEq, Int.reduceBNe, Nat.reduceBEq, Nat.reduceDiv, Nat.reduceMod, Int.reduceNeg, Int.reduceEq, h0], by simp -implicitDefEqProofs (disch := omega) only [go_sem, Nat.reduceAdd, Nat.reduceMul, Nat.reduceSub, Nat.reduceEqDiff, Nat.reduceLT, Nat.reduceLeDiff, reduceIte, reduceCtorEq, Int.reduceLE, Int.reduceLT, Int.reduceGE, Int.reduceGT, Int.reduceAdd, Int.reduceSub, Int.reduceMul, Int.reduceToNat, Int.reduceBEq, Int.reduceBNe, Nat.reduceBEq, Nat.reduceDiv, Nat.reduceMod, Int.reduceNeg, Int.reduceEq, h1], by simp -implicitDefEqProofs (disch := omega) only [go_sem, Nat.reduceAdd, Nat.reduceMul, Nat.reduceSub, Nat.reduceEqDiff, Nat.reduceLT, Nat.reduceLeDiff, reduceIte, reduceCtorEq, Int.reduceLE, Int.reduceLT, Int.reduceGE, Int.reduceGT, Int.reduceAdd, Int.reduceSub, Int.reduceMul, Int.reduceToNat, Int.reduceBEq, Int.reduceBNe, Nat.reduceBEq, Nat.reduceDiv, Nat.reduceMod, Int.reduceNeg, Int.reduceEq, h9], by simp -implicitDefEqProofs (disch := omega) only [go_sem, Nat.reduceAdd, Nat.reduceMul, Nat.reduceSub, Nat.reduceEqDiff, Nat.reduceLT, Nat.reduceLeDiff, reduceIte, reduceCtorEq, Int.reduceLE, Int.reduceLT, Int.reduceGE, Int.reduceGT, Int.reduceAdd, Int.reduceSub, Int.reduceMul, Int.reduceToNat, Int.reduceBEq, Int.reduceBNe, Nat.reduceBEq, Nat.reduceDiv, Nat.reduceMod, Int.reduceNeg, Int.reduceEq, go_sem], .inr ⟨1600, (σ 1600).gen + 1, by simp, ?_, ?_⟩⟩
      · rw [hX, hn]; simp -implicitDefEqProofs (disch := omega) only [go_sem, Nat.reduceAdd, Nat.reduceMul, Nat.reduceSub, Nat.reduceEqDiff, Nat.reduceLT, Nat.reduceLeDiff, reduceIte, reduceCtorEq, Int.reduceLE, Int.reduceLT, Int.reduceGE, Int.reduceGT, Int.reduceAdd, Int.reduceSub, Int.reduceMul, Int.reduceToNat, Int.reduceBEq, Int.reduceBNe, Nat.reduceBEq, Nat.reduceDiv, Nat.reduceMod, Int.reduceNeg, Int.reduceEq, go_sem]
      · rw [hX, hn]; simp -implicitDefEqProofs (disch := omega) only [go_sem, Nat.reduceAdd, Nat.reduceMul, Nat.reduceSub, Nat.reduceEqDiff, Nat.reduceLT, Nat.reduceLeDiff, reduceIte, reduceCtorEq, Int.reduceLE, Int.reduceLT, Int.reduceGE, Int.reduceGT, Int.reduceAdd, Int.reduceSub, Int.reduceMul, Int.reduceToNat, Int.reduceBEq, Int.reduceBNe, Nat.reduceBEq, Nat.reduceDiv, Nat.reduceMod, Int.reduceNeg, Int.reduceEq, go_sem]
    · obtain rfl : q = 1600 := by simpa using hq
      simp only at h5 sq
      simp -implicitDefEqProofs (disch := omega) only [go_sem, Nat.reduceAdd, Nat.reduceMul, Nat.reduceSub, Nat.reduceEqDiff, Nat.reduceLT, Nat.reduceLeDiff, reduceIte, reduceCtorEq, Int.reduceLE, Int.reduceLT, Int.reduceGE, Int.reduceGT, Int.reduceAdd, Int.reduceSub, Int.reduceMul, Int.reduceToNat, Int.reduceBEq, Int.reduceBNe, Nat.reduceBEq, Nat.reduceDiv, Nat.reduceMod, Int.reduceNeg, Int.reduceEq, h0, h1, h10, h5, sq, hmb]
      refine ⟨i + 1, by omega, by omega, by simp -implicitDefEqProofs (disch := omega) only [go_sem, Nat.reduceAdd, Nat.reduceMul, Nat.reduceSub, Nat.reduceEqDiff, Nat.reduceLT, Nat.reduceLeDiff, reduceIte, reduceCtorEq, Int.reduceLE, Int.reduceLT, Int.reduceGE, Int.reduceGT, Int.reduceAdd, Int.reduceSub, Int.reduceMul, Int.reduceToNat, Int.reduceBEq, Int.reduceBNe, Nat.reduceBEq, Nat.reduceDiv, Nat.reduceMod, Int.reduceNeg, Int.reduceEq, h0], by simp -implicitDefEqProofs (disch := omega) only [go_sem, Nat.reduceAdd, Nat.reduceMul, Nat.reduceSub, Nat.reduceEqDiff, Nat.reduceLT, Nat.reduceLeDiff, reduceIte, reduceCtorEq, Int.reduceLE, Int.reduceLT, Int.reduceGE, Int.reduceGT, Int.reduceAdd, Int.reduceSub, Int.reduceMul, Int.reduceToNat, Int.reduceBEq, Int.reduceBNe, Nat.reduceBEq, Nat.reduceDiv, Nat.reduceMod, Int.reduceNeg, Int.reduceEq, h1], by simp -implicitDefEqProofs (disch := omega) only [go_sem, Nat.reduceAdd, Nat.reduceMul, Nat.reduceSub, Nat.reduceEqDiff, Nat.reduceLT, Nat.reduceLeDiff, reduceIte, reduceCtorEq, Int.reduceLE, Int.reduceLT, Int.reduceGE, Int.reduceGT, Int.reduceAdd, Int.reduceSub, Int.reduceMul, Int.reduceToNat, Int.reduceBEq, Int.reduceBNe, Nat.reduceBEq, Nat.reduceDiv, Nat.reduceMod, Int.reduceNeg, Int.reduceEq, h9], by simp -implicitDefEqProofs (disch := omega) only [go_sem, Nat.reduceAdd, Nat.reduceMul, Nat.reduceSub, Nat.reduceEqDiff, Nat.reduceLT, Nat.reduceLeDiff, reduceIte, reduceCtorEq, Int.reduceLE, Int.reduceLT, Int.reduceGE, Int.reduceGT, Int.reduceAdd, Int.reduceSub, Int.reduceMul, Int.reduceToNat, Int.reduceBEq, Int.reduceBNe, Nat.reduceBEq, Nat.reduceDiv, Nat.reduceMod, Int.reduceNeg, Int.reduceEq, go_sem], .inr ⟨1600, gq + 1, by simp, ?_, ?_⟩⟩
      · rw [hX]; simp -implicitDefEqProofs (disch := omega) only [go_sem, Nat.reduceAdd, Nat.reduceMul, Nat.reduceSub, Nat.reduceEqDiff, Nat.reduceLT, Nat.reduceLeDiff, reduceIte, reduceCtorEq, Int.reduceLE, Int.reduceLT, Int.reduceGE, Int.reduceGT, Int.reduceAdd, Int.reduceSub, Int.reduceMul, Int.reduceToNat, Int.reduceBEq, Int.reduceBNe, Nat.reduceBEq, Nat.reduceDiv, Nat.reduceMod, Int.reduceNeg, Int.reduceEq, go_sem]
      · rw [hX]; simp -implicitDefEqProofs (disch := omega) only [go_sem, Nat.reduceAdd, Nat.reduceMul, Nat.reduceSub, Nat.reduceEqDiff, Nat.reduceLT, Nat.reduceLeDiff, reduceIte, reduceCtorEq, Int.reduceLE, Int.reduceLT, Int.reduceGE, Int.reduceGT, Int.reduceAdd, Int.reduceSub, Int.reduceMul, Int.reduceToNat, Int.reduceBEq, Int.reduceBNe, Nat.reduceBEq, Nat.reduceDiv, Nat.reduceMod, Int.reduceNeg, Int.reduceEq, go_sem]
  · obtain rfl : i = bytes8 b := by omega
    rw [numF_all _ n h8] at ho
    have hl := numB_len (bytes8 b) n
    rcases ho with ⟨hn, h5⟩ | ⟨q, gq, hq, h5, sq⟩
    · simp only at h5
      simp -implicitDefEqProofs (disch := omega) only [go_sem, Nat.reduceAdd, Nat.reduceMul, Nat.reduceSub, Nat.reduceEqDiff, Nat.reduceLT, Nat.reduceLeDiff, reduceIte, reduceCtorEq, Int.reduceLE, Int.reduceLT, Int.reduceGE, Int.reduceGT, Int.reduceAdd, Int.reduceSub, Int.reduceMul, Int.reduceToNat, Int.reduceBEq, Int.reduceBNe, Nat.reduceBEq, Nat.reduceDiv, Nat.reduceMod, Int.reduceNeg, Int.reduceEq, h5, hn]
    · simp only at h5 sq
      simp -implicitDefEqProofs (disch := omega) only [go_sem, Nat.reduceAdd, Nat.reduceMul, Nat.reduceSub, Nat.reduceEqDiff, Nat.reduceLT, Nat.reduceLeDiff, reduceIte, reduceCtorEq, Int.reduceLE, Int.reduceLT, Int.reduceGE, Int.reduceGT, Int.reduceAdd, Int.reduceSub, Int.reduceMul, Int.reduceToNat, Int.reduceBEq, Int.reduceBNe, Nat.reduceBEq, Nat.reduceDiv, Nat.reduceMod, Int.reduceNeg, Int.reduceEq, h5, sq]
theorem RefNumber_ok : ∀ (m : Nat) (n : UInt64) (b : Int), b ≤ 8 → bytes8 b = m → Gf fns 20 [.int .u64 (n.toNat : Int), .int .i64 b] = some (.str (numB n m), [])
  | 0, n, b, hb, hm => by
    have h0 : b ≤ 0 := by unfold bytes8 at hm; omega
    refine Gf_start rfl rfl ?_
    simp -implicitDefEqProofs (disch := omega) only [go_sem, Nat.reduceAdd, Nat.reduceMul, Nat.reduceSub, Nat.reduceEqDiff, Nat.reduceLT, Nat.reduceLeDiff, reduceIte, reduceCtorEq, Int.reduceLE, Int.reduceLT, Int.reduceGE, Int.reduceGT, Int.reduceAdd, Int.reduceSub, Int.reduceMul, Int.reduceToNat, Int.reduceBEq, Int.reduceBNe, Nat.reduceBEq, Nat.reduceDiv, Nat.reduceMod, Int.reduceNeg, Int.reduceEq, h0, numB]
  | m + 1, n, b, hb, hm => by
    have h0 : ¬ b ≤ 0 := by unfold bytes8 at hm; omega
    have hm8 : m ≤ 7 := by unfold bytes8 at hm; omega
    have ih := RefNumber_ok m (n / 256) (b - 1) (by omega) (by unfold bytes8 at hm ⊢; omega)
    have hd : n.toNat / 256 = (n / 256).toNat := (UInt64.toNat_div n 256).symm
    have hmd : IntKind.u8.wrap ((n.toNat % 256 : Nat) : Int) = (n.toUInt8.toNat : Int) := by
      rw [UInt64.toNat_toUInt8]
      exact wn_u8 (by omega)
    have hl := numB_len m (n / 256)
    have h256 : ¬ (256 : Int) = 0 := by omega
    refine Gf_start rfl rfl ?_
    simp -implicitDefEqProofs (disch := omega) only [go_sem, Nat.reduceAdd, Nat.reduceMul, Nat.reduceSub, Nat.reduceEqDiff, Nat.reduceLT, Nat.reduceLeDiff, reduceIte, reduceCtorEq, Int.reduceLE, Int.reduceLT, Int.reduceGE, Int.reduceGT, Int.reduceAdd, Int.reduceSub, Int.reduceMul, Int.reduceToNat, Int.reduceBEq, Int.reduceBNe, Nat.reduceBEq, Nat.reduceDiv, Nat.reduceMod, Int.reduceNeg, Int.reduceEq, h0]
    refine wp_draw_E ?_
    simp -implicitDefEqProofs (disch := omega) only [go_sem, Nat.reduceAdd, Nat.reduceMul, Nat.reduceSub, Nat.reduceEqDiff, Nat.reduceLT, Nat.reduceLeDiff, reduceIte, reduceCtorEq, Int.reduceLE, Int.reduceLT, Int.reduceGE, Int.reduceGT, Int.reduceAdd, Int.reduceSub, Int.reduceMul, Int.reduceToNat, Int.reduceBEq, Int.reduceBNe, Nat.reduceBEq, Nat.reduceDiv, Nat.reduceMod, Int.reduceNeg, Int.reduceEq, hd, ih, hmd, h256, numB]
theorem RefNumberAny_ok (n : UInt64) (b : Int) : Gf fns 20 [.int .u64 (n.toNat : Int), .int .i64 b] = some (.str (numB n (bytes8 b)), []) := by
  by_cases hb : b ≤ 8
  · exact RefNumber_ok _ n b hb rfl
  · have h8 := RefNumber_ok 8 n 8 (by omega) rfl
    have e : bytes8 b = 8 := by unfold bytes8; omega
    rw [e]
    have ih := RefNumber_ok 7 (n / 256) 7 (by omega) rfl
    have hd : n.toNat / 256 = (n / 256).toNat := (UInt64.toNat_div n 256).symm
    have hmd : IntKind.u8.wrap ((n.toNat % 256 : Nat) : Int) = (n.toUInt8.toNat : Int) := by
      rw [UInt64.toNat_toUInt8]
      exact wn_u8 (by omega)
    have hl := numB_len 7 (n / 256)
    have h256 : ¬ (256 : Int) = 0 := by omega
    have h0 : 8 < b := by omega
    refine Gf_start rfl rfl ?_
    simp -implicitDefEqProofs (disch := omega) only [go_sem, Nat.reduceAdd, Nat.reduceMul, Nat.reduceSub, Nat.reduceEqDiff, Nat.reduceLT, Nat.reduceLeDiff, reduceIte, reduceCtorEq, Int.reduceLE, Int.reduceLT, Int.reduceGE, Int.reduceGT, Int.reduceAdd, Int.reduceSub, Int.reduceMul, Int.reduceToNat, Int.reduceBEq, Int.reduceBNe, Nat.reduceBEq, Nat.reduceDiv, Nat.reduceMod, Int.reduceNeg, Int.reduceEq, h0]
    refine wp_draw_E ?_
    simp -implicitDefEqProofs (disch := omega) only [go_sem, Nat.reduceAdd, Nat.reduceMul, Nat.reduceSub, Nat.reduceEqDiff, Nat.reduceLT, Nat.reduceLeDiff, reduceIte, reduceCtorEq, Int.reduceLE, Int.reduceLT, Int.reduceGE, Int.reduceGT, Int.reduceAdd, Int.reduceSub, Int.reduceMul, Int.reduceToNat, Int.reduceBEq, Int.reduceBNe, Nat.reduceBEq, Nat.reduceDiv, Nat.reduceMod, Int.reduceNeg, Int.reduceEq, hd, ih, hmd, h256, numB]
def crcI (s : List UInt8) (i : Nat) (st : St) : Prop := i ≤ s.length ∧ st.t 0 = .str s ∧ st.t 3 = .int .u32 ((crcFrom (UInt32.ofNat 4294967295) (s.take i)).toNat : Int) ∧ st.t 6 = .int .i64 (s.length : Int) ∧ st.t 7 = .int .i64 (i : Int)
def crcJ (s : List UInt8) (i : Nat) (r : UInt32) (k : Nat) (st : St) : Prop := k ≤ 8 ∧ st.t 0 = .str s ∧ st.t 3 = .int .u32 ((crcBits r k).toNat : Int) ∧ st.t 6 = .int .i64 (s.length : Int) ∧ st.t 7 = .int .i64 (i : Int) ∧ st.t 16 = .int .i64 (k : Int)
theorem rem_two (X : UInt32) : ((X.toNat % 2 : Nat) : Int) = ((X &&& UInt32.ofNat 1).toNat : Int) := by
  have h1 : (UInt32.ofNat 1).toNat = 2 ^ 1 - 1 := rfl
  rw [UInt32.toNat_and, h1, Nat.and_two_pow_sub_one_eq_mod]
theorem div_two (X : UInt32) : X.toNat / 2 = (X >>> UInt32.ofNat 1).toNat := by
  rw [← shr_u32 X 1 (by omega)]
def rcrcI (s : List UInt8) (i : Nat) (st : St) : Prop := i ≤ s.length ∧ st.t 0 = .str s ∧ st.t 3 = .int .u32 ((crcFrom (UInt32.ofNat 4294967295) (s.take i)).toNat : Int) ∧ st.t 4 = .int .i64 (i : Int)
def rcrcJ (s : List UInt8) (i : Nat) (r : UInt32) (k : Nat) (st : St) : Prop := k ≤ 8 ∧ st.t 0 = .str s ∧ st.t 3 = .int .u32 ((crcBits r k).toNat : Int) ∧ st.t 4 = .int .i64 (i : Int) ∧ st.t 5 = .int .i64 (k : Int)
theorem sub_ones' (x : UInt32) : IntKind.u32.wrap (4294967295 - (x.toNat : Int)) = ((x ^^^ UInt32.ofNat 4294967295).toNat : Int) := by
  have h : (x ^^^ UInt32.ofNat 4294967295) = UInt32.ofNat 4294967295 - x := by
    apply UInt32.eq_of_toBitVec_eq
    show (x.toBitVec ^^^ BitVec.allOnes 32) = BitVec.allOnes 32 - x.toBitVec
    rw [BitVec.xor_allOnes, BitVec.allOnes_sub_eq_not]
  have hx := lt_u32 x
  rw [h, UInt32.toNat_sub_of_le _ _ (by rw [UInt32.le_iff_toNat_le]; show x.toNat ≤ 4294967295; omega)]
  show _ = ((4294967295 - x.toNat : Nat) : Int)
  rw [w_u32 (by omega)]
  omega
end Go.Vm.Ytnmcmcgbhlgniaa
